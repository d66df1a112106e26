/- An abstract evaluator, part 11: calls, copies, structs compared. -/
import Derived.Test.YtfklgafihefpeaaEvA
set_option linter.unusedVariables false
set_option linter.unusedSimpArgs false
namespace Go.Ev
open Go.RowKit

section
variable {P : Program} {X : Nat → Prop} {n : Nat} {base : Base} {w0 w : World} {st : St} {a : Act} {β : Nat → Nat → Option Nat} {o : Oper} {K : Kont}

/-! ### calls -/
theorem RepRes_pers {M : Nat → Prop} {b : Nat → Prop} {w' : World} {r : AV} {v : Value} (hr : ∀ e sz es, r ≠ .own e sz es) (h : RepRes M b w' r v) : RepV (px M w') r v := by
  cases r <;> first | exact h | exact absurd rfl (hr _ _ _)

theorem px_le (H : Heap) (w' : World) (M : Nat → Prop) (hM : ∀ b, ¬ M b → ¬ (cx X H w' β).M b) : (px M w').Le (cx X H w' β) :=
  ⟨Nat.le_refl _, fun b _ hm => ⟨rfl, hM b hm⟩, fun b cur e h => ⟨cur, h, rfl⟩, fun s g hg => absurd hg.1 (by have := hg.2; simp only [px] at this; omega), fun _ => Nat.zero_le _⟩

/-- What a call hands back, in the caller's own words. -/
theorem call_back {H : Heap} (ok : HOK X base w0 H w β) {w' : World} (hbel : Below w.heap.size w w') {d : Nat} {r : AV} {v : Value} (hr : RepRes (cx X H w β).M (w.heap.size ≤ ·) w' r v) {us : Upds} {K : Kont} {h0 : Heap} (hgen : (h0 d).1 = (H d).1)
    (h : recvQ h0 d r us K) : ∃ y us2 β', K y (us ++ us2) ∧ HOK X base w0 (updH H us2) w' β' ∧ (cx X H w β).Le (cx X (updH H us2) w' β') ∧ RepV (cx X (updH H us2) w' β') y v := by
  by_cases hown : ∃ e sz es, r = .own e sz es
  · obtain ⟨e, sz, es, rfl⟩ := hown
    simp only [recvQ, hgen] at h
    obtain ⟨hal, hr⟩ := hr
    rcases hr with ⟨rfl, rfl⟩ | ⟨b, cap, cur, rfl, hcap, hcm, hb, hcur, hcs, hE⟩
    · obtain ⟨ok1, le1⟩ := ok.belowed hbel
      obtain ⟨β', h1, h2, h3⟩ := app_nothing ok1 d e sz
      exact ⟨_, _, β', h, h1, le1.trans h2, h3⟩
    · obtain ⟨h1, h2⟩ := ok.adopt hbel d b hb (.arr e sz es) (fun c' hle hw hM => by
        refine ⟨hal, ok.hbase _ hb, cur, by rw [hw]; exact hcur, by rw [hcs]; exact Nat.mul_le_mul_right _ hcap, ?_⟩
        refine RepE.mono (c := px (fun x => (cx X H w β).M x ∨ x = b) w') (c' := c'.pers) ⟨by rw [show c'.pers.w = w' from hw]; exact Nat.le_refl _, fun i _ hm => ⟨by rw [show c'.pers.w = w' from hw]; rfl, fun h => ?_⟩, fun i cur e h => ⟨cur, by rw [show c'.pers.w = w' from hw]; exact h, rfl⟩, fun _ _ _ => rfl, fun _ => Nat.le_refl _⟩ es b 0 (by rw [show c'.pers.w = w' from hw]; rfl) hE
        exact hm (hM i h))
      refine ⟨_, _, _, h, h1, h2, ?_⟩
      simp only [RepV]
      exact ⟨⟨Nat.succ_pos _, by simp [cx, updH, upd]⟩, .inr ⟨b, cap, cur, e, by simp [cx, βnew], rfl, hcap, hcm, hcur, hcs⟩⟩
  · have hne : ∀ e sz es, r ≠ .own e sz es := fun e sz es he => hown ⟨e, sz, es, he⟩
    have hK : K r (us ++ []) := by
      rw [List.append_nil]
      cases r <;> first | exact h | exact absurd rfl (hne _ _ _)
    obtain ⟨ok1, le1⟩ := ok.belowed hbel
    exact ⟨r, [], β, hK, ok1, le1, RepV.mono (px_le H w' _ (fun b hm => hm)) _ _ (RepRes_pers hne hr)⟩

theorem op_callf (hs : Sim X n base w0 st a w β) (hd : ∀ d, o.dst = some d → d < n) {f : FuncId} {args : List Value} {d : Nat}
    (hexec : Callable P f → (execOp a.eval o).run P w = .ok (.enter f args.toArray) w)
    {xs' : List AV} {us : Upds} {r : AV} (hfn0 : Fn P f xs' r) (hrecv : recvQ st.H d r us K) (ok1 : HOK X base w0 (updH st.H us) w β) (le1 : (cx X st.H w β).Le (cx X (updH st.H us) w β)) (fz : FrzOf st.H (updH st.H us))
    (r1 : RepT (cx X (updH st.H us) w β) xs' args) (pp : xs'.all PersA = true) : Goal P X n base w0 o st K a w := by
  obtain ⟨hcall, hfn⟩ := hfn0.norm r1
  have hr2 : RepT (px (cx X (updH st.H us) w β).M w) xs' args := PersT.pers (c := cx X (updH st.H us) w β) (c' := px (cx X (updH st.H us) w β).M w) rfl pp r1
  have hc := hfn (cx X (updH st.H us) w β).M w args (fun b hm => M_lt ok1 hm) hr2
  -- the abstract answer does not hang on what the call hands back: it is told by recvQ
  by_cases hown : ∃ e sz es, r = .own e sz es
  · obtain ⟨e, sz, es, rfl⟩ := hown
    simp only [recvQ] at hrecv
    refine ⟨_, _, hrecv, fun next Q hn => ?_⟩
    unfold Oper.wp
    rw [hexec hcall, Oper.upon_enter]
    refine hc.mono fun e' w' hR => ?_
    obtain ⟨v, rfl, hbel, hres⟩ := hR
    obtain ⟨y, us2, β', hy, h1, h2, h3⟩ := call_back (us := us) (d := d) (h0 := st.H) (K := fun y u => y = .view d ((st.H d).1 + 1) sz es.length ∧ u = us ++ [(d, (st.H d).1 + 1, some (.arr e sz es))]) ok1 hbel hres (fz.gen d).symm ⟨rfl, rfl⟩
    obtain ⟨rfl, hu⟩ := hy
    have hu2 : us2 = [(d, (st.H d).1 + 1, some (.arr e sz es))] := List.append_cancel_left hu
    subst hu2
    refine hn _ _ β' (hs.put hd (v' := v) ?_ ?_ ?_)
    · rw [updH_append]; exact h1
    · rw [updH_append]; exact le1.trans h2
    · rw [updH_append]; exact h3
  · have hne : ∀ e sz es, r ≠ .own e sz es := fun e sz es he => hown ⟨e, sz, es, he⟩
    have hK : K r us := by cases r <;> first | exact hrecv | exact absurd rfl (hne _ _ _)
    refine ⟨_, _, hK, fun next Q hn => ?_⟩
    unfold Oper.wp
    rw [hexec hcall, Oper.upon_enter]
    refine hc.mono fun e' w' hR => ?_
    obtain ⟨v, rfl, hbel, hres⟩ := hR
    obtain ⟨ok2, le2⟩ := ok1.belowed hbel
    exact hn _ _ β (hs.put hd (v' := v) ok2 (le1.trans le2) (RepV.mono (px_le (updH st.H us) w' _ (fun b hm => hm)) _ _ (RepRes_pers hne hres)))

theorem updH_apart : ∀ {us : Upds} {h : Heap} {s : Nat}, (us.all fun u => u.1 != s) = true → updH h us s = h s
  | [], _, _, _ => rfl
  | (t, gb) :: us, h, s, hu => by
    simp only [List.all_cons, Bool.and_eq_true, bne_iff_ne, ne_eq] at hu
    simp only [updH]
    rw [updH_apart hu.2, upd_apply, if_neg (fun e => hu.1 e.symm)]

theorem op_callIO (hs : Sim X n base w0 st a w β) (hd : ∀ d, o.dst = some d → d < n) {f : FuncId} {args : List Value}
    (hexec : Callable P f → (execOp a.eval o).run P w = .ok (.enter f args.toArray) w)
    {xs : List AV} (hr : RepT (cx X st.H w β) xs args) (h : callIO (Fn P) f xs st.H K) : Goal P X n base w0 o st K a w := by
  unfold callIO at h
  split at h
  · rename_i s g sz off m xs
    split at h
    · rename_i g' e sz' es hH
      obtain ⟨rfl, rfl, hfit, h⟩ := h
      simp only [RepT] at hr
      obtain ⟨v0, vs, rfl, hsub, hr⟩ := hr
      simp only [RepV] at hsub
      obtain ⟨hg, b, cap, cur0, e0, hβ, rfl, hmc, hcm, hrow0⟩ := hsub
      obtain ⟨ys, us, ⟨hus, r, es', hfn, hK⟩, ok1, le1, fz, r1, pp, _⟩ := freezeAL_sound hs.ok (FrzOf.refl _) xs _ hr h
      have hH1 : updH st.H us s = (g, some (.arr e sz' es)) := by rw [updH_apart hus]; exact hH
      have hMb : (cx X (updH st.H us) w β).M b := .inr ⟨s, g, _, hH1, trivial, hβ⟩
      obtain ⟨hal, hblk⟩ := ok1.hp s g _ hH1
      rw [show β s g = some b from hβ] at hblk
      obtain ⟨hbb, cur, hrow, hsz, hE⟩ := hblk
      have hrow' : w.heap[b]? = some (.cells cur e (0, 0)) := hrow
      have hr2 : RepT (px (cx X (updH st.H us) w β).M w) ys vs := PersT.pers (c := cx X (updH st.H us) w β) (c' := px (cx X (updH st.H us) w β).M w) rfl pp r1
      obtain ⟨hcall, hio⟩ := hfn
      have hE' : RepE (px (cx X (updH st.H us) w β).M w) es b 0 := hE
      have hc := hio (cx X (updH st.H us) w β).M w vs b cap cur (fun b hb => M_lt ok1 hb) hMb hr2 hal hrow' hsz hE' hfit hmc hcm
      refine ⟨_, _, hK, fun next Q hn => ?_⟩
      unfold Oper.wp
      rw [hexec hcall, Oper.upon_enter]
      refine hc.mono fun e' w' hR => ?_
      obtain ⟨v, r0, es2, heq, rfl, hbel, hal2, ⟨cur', hcur', hcs, hfit2, hE2⟩, hrv⟩ := hR
      injection heq with heq
      injection heq with h1 heq
      injection heq with heq
      injection heq with h2 h3 h4
      subst h1 h4
      have ecx := cx_retell (X := X) (w := w') (β := β) hH1 (k' := .arr e sz' es') trivial trivial
      have hblt : b < w.heap.size := (Array.getElem?_eq_some_iff.1 hrow').1
      have hle : (cx X (updH st.H us) w β).Le (cx X (updH st.H us) w' β) := by
        refine ⟨hbel.size, fun k hk hm => ⟨hbel.block k ?_, hm⟩, fun k cu e1 h1 => ?_, fun _ _ _ => rfl, fun _ => Nat.le_refl _⟩
        · rintro (h1 | rfl)
          · exact Nat.lt_irrefl _ (Nat.lt_of_lt_of_le hk h1)
          · exact hm hMb
        · by_cases hkb : k = b
          · subst hkb
            rw [show (cx X (updH st.H us) w β).w.heap[k]? = w.heap[k]? from rfl, hrow'] at h1
            injection h1 with h1
            injection h1 with h5 h6 h7
            subst h5 h6
            exact ⟨cur', hcur', hcs⟩
          · have hk : k < w.heap.size := (Array.getElem?_eq_some_iff.1 h1).1
            refine ⟨cu, (hbel.block k ?_).trans h1, rfl⟩
            rintro (h8 | h8)
            · exact Nat.lt_irrefl _ (Nat.lt_of_lt_of_le hk h8)
            · exact hkb h8
      have fix : ∀ {s1 g1 k1}, upd (updH st.H us) s (g, some (.arr e sz' es')) s1 = (g1, some k1) → ∃ k2 : Blk, updH st.H us s1 = (g1, some k2) ∧ (k1.live → k2.live) := by
        intro s1 g1 k1 h1
        by_cases hs1 : s1 = s
        · subst hs1
          rw [upd_same] at h1
          injection h1 with h2 h3
          subst h2
          exact ⟨_, hH1, fun _ => trivial⟩
        · rw [upd_apply, if_neg hs1] at h1
          exact ⟨k1, h1, id⟩
      have ok2 : HOK X base w0 (upd (updH st.H us) s (g, some (.arr e sz' es'))) w' β := by
        refine ⟨ok1.below.trans ⟨hbel.os, hbel.tape, hbel.output, hbel.size, fun k hk => hbel.block k ?_⟩, ok1.hX, fun k hk => ok1.hbase k (Nat.le_trans hbel.size hk), ?_, ?_, ?_⟩
        · rintro (h1 | rfl)
          · exact hk (ok1.hbase k h1)
          · exact hk hbb
        · intro s1 g1 k1 h1
          rw [ecx]
          by_cases hs1 : s1 = s
          · subst hs1
            rw [upd_same] at h1
            injection h1 with h2 h3
            injection h3 with h3
            subst h2 h3
            rw [show β s1 g = some b from hβ]
            exact ⟨hal2, hbb, cur', hcur', by rw [hcs]; exact hfit2, hE2⟩
          · rw [upd_apply, if_neg hs1] at h1
            refine RepB.mono hle (fun b' hb' hl => ?_) (ok1.hp s1 g1 k1 h1)
            refine hbel.block b' ?_
            rintro (h2 | rfl)
            · exact Nat.lt_irrefl _ (Nat.lt_of_lt_of_le (live_lt ok1 h1 hb') h2)
            · exact hs1 (ok1.inj s1 s g1 g k1 _ b' h1 hl hH1 trivial hb' hβ)
        · intro s1 s2 g1 g2 k1 k2 i h1 l1 h2 l2 h3 h4
          obtain ⟨k1', h1', l1'⟩ := fix h1
          obtain ⟨k2', h2', l2'⟩ := fix h2
          exact ok1.inj s1 s2 g1 g2 k1' k2' i h1' (l1' l1) h2' (l2' l2) h3 h4
        · intro s1 g1 b1 h1
          obtain ⟨h2, h3, h4, cu, e5, h5, h6⟩ := ok1.keep s1 g1 b1 h1
          obtain ⟨cu', h7, h8⟩ := hle.own b1 cu e5 h5
          refine ⟨h2, ?_, h4, cu', e5, h7, h8.trans h6⟩
          unfold upd
          split
          · rename_i h; subst h; rw [hH1] at h3; exact h3
          · exact h3
      refine hn _ _ β (hs.put hd (v' := v) ?_ ?_ ?_)
      · rw [updH_append]; exact ok2
      · rw [updH_append]
        show (cx X st.H w β).Le (cx X (upd (updH st.H us) s (g, some (.arr e sz' es'))) w' β)
        rw [ecx]
        exact le1.trans hle
      · rw [updH_append]
        show RepV (cx X (upd (updH st.H us) s (g, some (.arr e sz' es'))) w' β) _ _
        rw [ecx]
        exact RepV.mono (px_le (updH st.H us) w' _ (fun b hm => hm)) _ _ hrv
    · exact h.elim
  · exact h.elim

theorem map_arr {α β : Type} (f : α → β) (l : Array α) : Array.map f l = (List.map f l.toList).toArray := by
  apply Array.toList_inj.1
  simp

theorem callFunc_run {w : World} {f : FuncId} (hc : Callable P f) (args : Array Value) : (callFunc f args).run P w = .ok (.enter f args) w := by
  obtain ⟨fn, h1, h2, h3⟩ := hc
  unfold callFunc
  simp only [Sem.run_bind, run_program, Result.andThen_ok, h1, h2, h3, Bool.false_eq_true, if_false]
  rfl

theorem op_call (hs : Sim X n base w0 st a w β) (hd : ∀ d, o.dst = some d → d < n) {f : FuncId} {args : Array Operand} {ts : Array TypeId} (ho : o.op = .call { callee := .value (.func f), args := args, argTypes := ts })
    {xs : List AV} (hr : RepT (cx X st.H w β) xs (args.toList.map a.eval)) {d} (h : stepH (Fn P) (.call f) xs st.H d K) : Goal P X n base w0 o st K a w := by
  simp only [stepH] at h
  have hx : Callable P f → (execOp a.eval o).run P w = .ok (.enter f (args.toList.map a.eval).toArray) w := fun hc => by
    unfold execOp
    simp [ho, resolve, Act.eval, Deferred.ofValue, invoke]
    rw [callFunc_run hc]
    simp [map_arr]
  rcases h with h | h | h
  · obtain ⟨xs', us, ⟨r, hfn, hrecv⟩, ok1, le1, fz, r1, pp, _⟩ := freezeAL_sound hs.ok (FrzOf.refl _) xs _ hr h
    exact op_callf hs hd hx hfn hrecv ok1 le1 fz r1 pp
  · obtain ⟨xs', us, ⟨r, hfn, hrecv⟩, ok1, le1, fz, r1, pp, _⟩ := freezeNL_sound hs.ok (FrzOf.refl _) xs _ hr h
    exact op_callf hs hd hx hfn hrecv ok1 le1 fz r1 pp
  · exact op_callIO hs hd hx hr h

theorem op_callv (hs : Sim X n base w0 st a w β) (hd : ∀ d, o.dst = some d → d < n) {fo : Operand} {args : Array Operand} {ts : Array TypeId} (ho : o.op = .call { callee := .value fo, args := args, argTypes := ts })
    {xs : List AV} (hr : RepT (cx X st.H w β) xs (a.eval fo :: args.toList.map a.eval)) {d} (h : stepH (Fn P) .callv xs st.H d K) : Goal P X n base w0 o st K a w := by
  cases xs with
  | nil => simp [RepT] at hr
  | cons p ps =>
    cases p <;> simp only [stepH] at h
    rename_i f
    simp only [RepT] at hr
    obtain ⟨v, vs', e, hp, hr⟩ := hr
    injection e with e1 e2
    subst e1 e2
    simp only [RepV] at hp
    obtain ⟨xs', us, ⟨r, hfn, hrecv⟩, ok1, le1, fz, r1, pp, _⟩ := freezeAL_sound hs.ok (FrzOf.refl _) _ _ hr h
    refine op_callf hs hd (fun hc => ?_) hfn hrecv ok1 le1 fz r1 pp
    unfold execOp
    simp [ho, resolve, hp, Deferred.ofValue, invoke]
    rw [callFunc_run hc]
    simp [map_arr]

/-! ### copy, of cells -/
theorem op_copy (hs : Sim X n base w0 st a w β) (hd : ∀ d, o.dst = some d → d < n) {t t2 e : TypeId} {x y : Operand} (ho : o.op = .call { callee := .builtin .copy, args := #[x, y], argTypes := #[t, t2] })
    {i : TypeInfo} (hu : P.underlying t = some (.slice e)) (hi : P.info? e = some i) (hsz : i.size = 1)
    {xs : List AV} (hr : RepT (cx X st.H w β) xs [a.eval x, a.eval y]) {F d} (h : stepH F (.copy i.size) xs st.H d K) : Goal P X n base w0 o st K a w := by
  obtain ⟨p, q, rfl, hp, hq⟩ := RepT2 hr
  simp only [stepH, copyQ] at h
  have hrs := read_sound hs.ok hq h
  clear h
  obtain ⟨es2, ⟨hal, h⟩, hy⟩ := hrs
  have hrun : ∀ {v' : Value} {w' : World}, (Builtin.copy_ #[t, t2] o.type #[a.eval x, a.eval y]).run P w = .ok v' w' → (execOp a.eval o).run P w = .ok (.value v') w' := by
    intro v' w' h
    unfold execOp
    simp [ho, resolve, invoke, builtin, h]
  split at h
  · rename_i s g sz0 m
    split at h
    · rename_i g' e' sz' es hH
      obtain ⟨hgg, rfl, rfl, hlen, hK⟩ := h
      subst hgg
      obtain ⟨hal1, hblk⟩ := hs.ok.hp s g _ hH
      simp only [RepV] at hp
      obtain ⟨hg, hp⟩ := hp
      rcases hp with ⟨hβ, hv, hn0⟩ | ⟨b, cap, cur, e0, hβ, hv, hn, hm, hcur, hcs⟩
      · -- nothing to write to
        subst hn0
        have hes : es = [] := List.eq_nil_of_length_eq_zero hlen
        subst hes
        have hcopy : (Builtin.copy_ #[t, t2] o.type #[a.eval x, a.eval y]).run P w = .ok (goInt 0) w := by
          rw [hv]
          rcases hy with ⟨hyv, _⟩ | ⟨b2, off2, cap2, hyv, _⟩ <;>
            simp [hyv, Builtin.copy_, run_underlying hu, Builtin.lenOf, Builtin.firstCells, sizeOf, typeInfo, hi, loadCells, loadCellsFrom]
        have hsame : updH st.H [(s, g, some (Blk.arr e' i.size (es2.take 0 ++ ([] : List (List AV)).drop es2.length)))] = st.H := by
          funext s'
          simp only [updH, upd]
          split
          · rename_i h; subst h; rw [hH]; simp
          · rfl
        refine Goal.value hs hd hK (v' := goInt 0) (β' := β) (hrun hcopy) ?_ ?_ ?_
        · rw [hsame]; exact hs.ok
        · rw [hsame]; exact .refl _
        · simp [RepV, goInt]
      · rw [show β s g = some b from hβ] at hblk
        obtain ⟨hbase, cur', hcur', hfit, hE⟩ := hblk
        have hcc : some (Obj.cells cur e0) = some (Obj.cells cur' e') := by
          have h1 : w.heap[b]? = some (.cells cur e0 (0, 0)) := hcur
          have h2 : w.heap[b]? = some (.cells cur' e' (0, 0)) := hcur'
          rw [← h1, ← h2]
        injection hcc with hcc
        injection hcc with e1 e2
        subst e1 e2
        have hcur2 : w.heap[b]? = some (.cells cur e0 (0, 0)) := hcur
        have hal' : AllLen i.size (es2.take m ++ es.drop es2.length) := AllLen.append (fun z hz => hal z (List.mem_of_mem_take hz)) (fun z hz => hal1 z (List.mem_of_mem_drop hz))
        -- what is written
        have hnews : ∃ news : List Value, RepL (cx X st.H w β).pers (es2.take m).flatten news ∧ (Builtin.copy_ #[t, t2] o.type #[a.eval x, a.eval y]).run P w = .ok (goInt news.length) (w.setRow b (cur.toList.take 0 ++ news ++ cur.toList.drop (0 + news.length)).toArray) := by
          rcases hy with ⟨hyv, rfl⟩ | ⟨b2, off2, cap2, hyv, hc2, hb2', hE2⟩
          · refine ⟨[], by simp [RepL], ?_⟩
            have hz : (w.setRow b (cur.toList.take 0 ++ [] ++ cur.toList.drop (0 + ([] : List Value).length)).toArray) = w := by
              simp only [List.take_zero, List.nil_append, List.length_nil, Nat.add_zero, List.drop_zero, Array.toArray_toList]
              exact setRow_self w b cur e0 (0, 0) hcur2
            rw [hz, hv, hyv]
            exact run_copy_nil (P := P) w t t2 o.type e ⟨b, 0, none⟩ m cap hu (by rw [hi]; rfl)
          · have hE3 : RepE (cx X st.H w β).pers (es2.take m) b2 off2 := by
              have hal2 : AllLen i.size (es2.take m) := fun z hz => hal z (List.mem_of_mem_take hz)
              refine (RepE_iff hal2).2 fun j z hz => ?_
              rw [List.getElem?_take] at hz
              split at hz
              · exact (RepE_iff hal).1 hE2 j z hz
              · cases hz
            obtain ⟨news, hn1, hn2⟩ := news_of hE3
            have hnl : news.length = Nat.min es2.length m := by
              rw [RepL_length hn1, AllLen_flat (sz := i.size) (fun z hz => hal z (List.mem_of_mem_take hz)), List.length_take, hsz, Nat.mul_one, Nat.min_comm]
            refine ⟨news, hn1, ?_⟩
            rw [hv, hyv]
            refine run_copy_row (P := P) w t t2 o.type e b 0 m cap ⟨b2, off2, none⟩ es2.length cap2 cur e0 news hu (by rw [hi]; exact congrArg some hsz) hcur2 hnl hn2 ?_ (RepL_one hn1)
            have : Nat.min es2.length m ≤ m := Nat.min_le_right _ _
            rw [hsz, Nat.mul_one] at hfit
            omega
        obtain ⟨news, hn1, hcopy⟩ := hnews
        have hnl : news.length = Nat.min es2.length m := by
          rw [RepL_length hn1, AllLen_flat (sz := i.size) (fun z hz => hal z (List.mem_of_mem_take hz)), List.length_take, hsz, Nat.mul_one, Nat.min_comm]
        have hmin : Nat.min es2.length m ≤ m := Nat.min_le_right _ _
        rw [hsz, Nat.mul_one] at hfit
        have hcl : cur.toList.length = cur.size := Array.length_toList
        have hs2 : (cur.toList.take 0 ++ news ++ cur.toList.drop (0 + news.length)).toArray.size = cur.size := by
          simp only [List.size_toArray, List.length_append, List.length_take, List.length_drop]
          omega
        have hl' : (es2.take m ++ es.drop es2.length).length = es.length := by
          rw [List.length_append, List.length_take, List.length_drop]
          omega
        obtain ⟨ok1, le1⟩ := hs.ok.write (cur := (cur.toList.take 0 ++ news ++ cur.toList.drop (0 + news.length)).toArray) hH trivial hβ hcur2 hs2 (.arr e0 i.size (es2.take m ++ es.drop es2.length)) trivial (fun c' hle hw => by
          have hnew := setRow_heap w b cur (cur.toList.take 0 ++ news ++ cur.toList.drop (0 + news.length)).toArray e0 (0, 0) hcur2
          rw [← hw] at hnew
          refine ⟨hal', hbase, _, hnew, by rw [hs2, hl', hsz, Nat.mul_one]; exact hfit, ?_⟩
          refine (RepE_iff hal').2 fun j z hz => ?_
          have hzl : z.length = 1 := by rw [AllLen_get hal' hz, hsz]
          obtain ⟨z0, rfl⟩ := List.length_eq_one_iff.1 hzl
          rw [hsz, Nat.mul_one, Nat.zero_add]
          simp only [RepC, and_true]
          rw [show c'.pers.w = c'.w from rfl, cell_of_row c'.w b j _ e0 (0, 0) hnew, List.getElem?_toArray, splice_get _ _ _ _ (by omega)]
          by_cases hj : j < Nat.min es2.length m
          · rw [if_pos (by omega)]
            have h1 : (es2.take m).flatten[j]? = some z0 := by
              have hz2 : (es2.take m)[j]? = some [z0] := by
                rw [List.getElem?_append_left (by rw [List.length_take, Nat.min_comm]; exact hj)] at hz
                exact hz
              have hal2 : AllLen 1 (es2.take m) := fun z hz => by rw [hal z (List.mem_of_mem_take hz), hsz]
              clear hz
              revert hz2
              generalize es2.take m = l at hal2
              intro hz2
              induction l generalizing j with
              | nil => simp at hz2
              | cons y l ih =>
                have hy1 : y.length = 1 := hal2 y (by simp)
                obtain ⟨y0, rfl⟩ := List.length_eq_one_iff.1 hy1
                cases j with
                | zero => simp at hz2 ⊢; exact hz2
                | succ j =>
                  rw [List.getElem?_cons_succ] at hz2
                  rw [List.flatten_cons, List.singleton_append, List.getElem?_cons_succ]
                  exact ih j (by omega) (fun x hx => hal2 x (by simp [hx])) hz2
            obtain ⟨v, hv1, hv2, hv3⟩ := (RepL_iff.1 hn1).2 j z0 h1
            exact ⟨v, by simpa using hv1, hv2, RepV.mono hle.pers _ _ hv3⟩
          · rw [if_neg (by omega)]
            have hz2 : es[j]? = some [z0] := by
              rw [List.getElem?_append_right (by rw [List.length_take, Nat.min_comm]; exact Nat.not_lt.1 hj), List.getElem?_drop, List.length_take] at hz
              rw [← hz]
              congr 1
              have hjl : j < es.length := by
                have := (List.getElem?_eq_some_iff.1 hz).1
                omega
              have : Nat.min es2.length m = min m es2.length := Nat.min_comm _ _
              omega
            have := (RepE_iff hal1).1 hE j _ hz2
            rw [hsz, Nat.mul_one, Nat.zero_add] at this
            simp only [RepC, and_true] at this
            obtain ⟨v, hv1, hv2, hv3⟩ := this
            rw [show (cx X st.H w β).pers.w = w from rfl, cell_of_row w b j cur e0 (0, 0) hcur2] at hv1
            exact ⟨v, by simpa using hv1, hv2, RepV.mono hle.pers _ _ hv3⟩)
        refine Goal.value hs hd hK (v' := goInt news.length) (hrun hcopy) ok1 le1 ?_
        simp only [RepV, goInt, hnl]
    · exact h.elim
  · exact h.elim

end
end Go.Ev
