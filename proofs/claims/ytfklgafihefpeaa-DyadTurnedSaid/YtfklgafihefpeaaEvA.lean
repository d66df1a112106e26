/- An abstract evaluator, part 10: append, copy, calls. -/
import Derived.Test.YtfklgafihefpeaaEv9
set_option linter.unusedVariables false
set_option linter.unusedSimpArgs false
namespace Go.Ev
open Go.RowKit

theorem RepC_append {c : Cx} : ∀ {xs ys : List AV} {b off : Nat}, RepC c (xs ++ ys) b off ↔ RepC c xs b off ∧ RepC c ys b (off + xs.length)
  | [], ys, b, off => by simp [RepC]
  | x :: xs, ys, b, off => by
    simp only [List.cons_append, RepC, List.length_cons]
    rw [RepC_append (xs := xs), show off + 1 + xs.length = off + (xs.length + 1) by omega, and_assoc]

theorem RepE_flat {c : Cx} : ∀ {es : List (List AV)} {b off : Nat}, RepE c es b off ↔ RepC c es.flatten b off
  | [], b, off => by simp [RepE, RepC]
  | e :: es, b, off => by
    simp only [RepE, List.flatten_cons]
    rw [RepC_append, RepE_flat (es := es)]

theorem AllLen_flat {sz : Nat} : ∀ {es : List (List AV)}, AllLen sz es → es.flatten.length = es.length * sz
  | [], _ => by simp
  | e :: es, h => by
    rw [List.flatten_cons, List.length_append, AllLen_flat (fun x hx => h x (by simp [hx])), h e (by simp), List.length_cons, Nat.add_mul]
    omega

theorem AllLen.append {sz : Nat} {es es2 : List (List AV)} (h : AllLen sz es) (h2 : AllLen sz es2) : AllLen sz (es ++ es2) := fun x hx => by
  rcases List.mem_append.1 hx with hx | hx
  · exact h x hx
  · exact h2 x hx

theorem upd_upd {α : Type} (f : Nat → α) (d : Nat) (u v : α) : upd (upd f d u) d v = upd f d v := by
  funext t
  unfold upd
  split <;> rfl

section
variable {P : Program} {X : Nat → Prop} {n : Nat} {base : Base} {w0 w : World} {st : St} {a : Act} {β : Nat → Nat → Option Nat} {o : Oper} {K : Kont}

/-- Old memory has not turned, and a new block is a site's. -/
theorem HOK.adopt {H : Heap} (ok : HOK X base w0 H w β) {w' : World} (hbel : Below w.heap.size w w') (d b : Nat) (hb : w.heap.size ≤ b) (blk : Blk)
    (hrep : ∀ c' : Cx, (cx X H w β).Le c' → c'.w = w' → (∀ i, c'.M i → (cx X H w β).M i ∨ i = b) → RepB c' base (some b) blk) :
    HOK X base w0 (upd H d ((H d).1 + 1, some blk)) w' (βnew β d ((H d).1 + 1) b) ∧ (cx X H w β).Le (cx X (upd H d ((H d).1 + 1, some blk)) w' (βnew β d ((H d).1 + 1) b)) := by
  obtain ⟨ok1, le1⟩ := ok.belowed hbel
  have hβ : ∀ s g, g ≤ (H s).1 → βnew β d ((H d).1 + 1) b s g = β s g := fun s g hg => by
    unfold βnew
    rw [if_neg]
    rintro ⟨rfl, rfl⟩
    omega
  have hβd : βnew β d ((H d).1 + 1) b d ((H d).1 + 1) = some b := by simp [βnew]
  have fix : ∀ {s1 g1 k1 i}, upd H d ((H d).1 + 1, some blk) s1 = (g1, some k1) → βnew β d ((H d).1 + 1) b s1 g1 = some i → (s1 = d ∧ i = b ∧ k1 = blk) ∨ (s1 ≠ d ∧ H s1 = (g1, some k1) ∧ β s1 g1 = some i) := by
    intro s1 g1 k1 i h1 h3
    by_cases hss : s1 = d
    · subst hss
      rw [upd_same] at h1
      injection h1 with h4 h5
      injection h5 with h5
      subst h4
      rw [hβd] at h3
      injection h3 with h3
      exact .inl ⟨rfl, h3.symm, h5.symm⟩
    · rw [upd_apply, if_neg hss] at h1
      rw [hβ s1 g1 (by rw [h1]; exact Nat.le_refl _)] at h3
      exact .inr ⟨hss, h1, h3⟩
  have hle : (cx X H w β).Le (cx X (upd H d ((H d).1 + 1, some blk)) w' (βnew β d ((H d).1 + 1) b)) := by
    refine ⟨hbel.size, fun i hi hm => ⟨hbel.block i hi, ?_⟩, fun i cur e h => ?_, fun s g hg => hβ s g hg.2, fun s => ?_⟩
    · rintro (hx | ⟨s1, g1, k1, h1, l1, h3⟩)
      · exact hm (.inl hx)
      · rcases fix h1 h3 with ⟨_, rfl, _⟩ | ⟨_, h4, h5⟩
        · exact absurd hi (Nat.not_lt.2 hb)
        · exact hm (.inr ⟨s1, g1, k1, h4, l1, h5⟩)
    · exact le1.own i cur e h
    · show (H s).1 ≤ (upd H d _ s).1
      unfold upd
      split
      · rename_i h; subst h; simp
      · exact Nat.le_refl _
  refine ⟨⟨ok1.below, ok.hX, ok1.hbase, ?_, ?_, ok.keep_le hle⟩, hle⟩
  · intro s1 g1 k1 h1
    by_cases hss : s1 = d
    · subst hss
      rw [upd_same] at h1
      injection h1 with h4 h5
      injection h5 with h5
      subst h4 h5
      rw [hβd]
      refine hrep _ hle rfl ?_
      rintro i (hx | ⟨s1, g1, k1, h1, l1, h3⟩)
      · exact .inl (.inl hx)
      · rcases fix h1 h3 with ⟨_, e, _⟩ | ⟨_, h4, h5⟩
        · exact .inr e
        · exact .inl (.inr ⟨s1, g1, k1, h4, l1, h5⟩)
    · rw [upd_apply, if_neg hss] at h1
      rw [hβ s1 g1 (by rw [h1]; exact Nat.le_refl _)]
      exact RepB.mono hle (fun i hi _ => hbel.block i (live_lt ok h1 hi)) (ok.hp s1 g1 k1 h1)
  · intro s1 s2 g1 g2 k1 k2 i h1 l1 h2 l2 h3 h4
    rcases fix h1 h3 with ⟨e1, e2, _⟩ | ⟨n1, h5, h6⟩ <;> rcases fix h2 h4 with ⟨e3, e4, _⟩ | ⟨n2, h7, h8⟩
    · rw [e1, e3]
    · subst e2; exact absurd (live_lt ok h7 h8) (Nat.not_lt.2 hb)
    · subst e4; exact absurd (live_lt ok h5 h6) (Nat.not_lt.2 hb)
    · exact ok.inj s1 s2 g1 g2 k1 k2 i h5 l1 h7 l2 h6 h8

/-- What is appended, as the cells that lie there. -/
theorem news_of {c : Cx} {es2 : List (List AV)} {b off : Nat} (h : RepE c es2 b off) : ∃ news : List Value, RepL c es2.flatten news ∧ ∀ j u, news[j]? = some u → c.w.cell? ((⟨b, off, none⟩ : Addr).add j) = some u := by
  obtain ⟨vs, h1, h2⟩ := RepC_list (RepE_flat.1 h)
  exact ⟨vs, h1, fun j u hj => by rw [Addr.add_lit]; exact h2 j u hj⟩

theorem run_app {t e : TypeId} {x y : Operand} (ho : o.op = .call { callee := .builtin .append, args := #[x, y], argTypes := #[t, t] }) {v' : Value} {w' : World}
    (h : (Builtin.append_ #[t, t] o.type #[a.eval x, a.eval y]).run P w = .ok v' w') : (execOp a.eval o).run P w = .ok (.value v') w' := by
  unfold execOp
  simp [ho, resolve, invoke, builtin, h]

/-- A site that begins, or goes on, with nothing. -/
theorem app_nothing {H : Heap} (ok : HOK X base w0 H w β) (s e sz : Nat) :
    ∃ β', HOK X base w0 (upd H s ((H s).1 + 1, some (.arr e sz []))) w β' ∧ (cx X H w β).Le (cx X (upd H s ((H s).1 + 1, some (.arr e sz []))) w β') ∧
      RepV (cx X (upd H s ((H s).1 + 1, some (.arr e sz []))) w β') (.view s ((H s).1 + 1) sz 0) (.slice none 0 0) := by
  obtain ⟨h1, h2⟩ := ok.regen s none (.arr e sz []) trivial (fun _ _ _ => ⟨(fun x hx => by cases hx), rfl⟩) (fun b h => by cases h)
  refine ⟨_, h1, h2, ?_⟩
  simp only [RepV]
  exact ⟨⟨Nat.succ_pos _, by simp [cx, upd]⟩, .inl ⟨by simp [cx, βset], trivial, trivial⟩⟩

/-- Append to nothing. -/
theorem app_nil {H : Heap} (ok : HOK X base w0 H w β) (s : Nat) {t ty e : TypeId} {i : TypeInfo} {z : Value} (hu : P.underlying t = some (.slice e)) (hi : P.info? e = some i) (hz : i.zero = some z)
    (hzs : z.cells.size = i.size) (hsz : 0 < i.size) {es2 : List (List AV)} (hal : AllLen i.size es2) {y : Value}
    (hy : (y = .slice none 0 0 ∧ es2 = []) ∨ ∃ b off cap, y = .slice (some ⟨b, off, none⟩) es2.length cap ∧ es2.length ≤ cap ∧ b < w.heap.size ∧ RepE (cx X H w β).pers es2 b off)
    (hb1 : es2.length * i.bytes ≤ 140737488355328) (hb2 : es2.length ≤ 1099511627776) :
    ∃ v' w' β', (Builtin.append_ #[t, t] ty #[.slice none 0 0, y]).run P w = .ok v' w' ∧ HOK X base w0 (upd H s ((H s).1 + 1, some (.arr e i.size es2))) w' β' ∧
      (cx X H w β).Le (cx X (upd H s ((H s).1 + 1, some (.arr e i.size es2))) w' β') ∧ RepV (cx X (upd H s ((H s).1 + 1, some (.arr e i.size es2))) w' β') (.view s ((H s).1 + 1) i.size es2.length) v' := by
  have hml : es2.length ≤ maxLen := by simp only [maxLen]; omega
  rcases hy with ⟨rfl, rfl⟩ | ⟨b, off, cap, rfl, hc, hb, hE⟩
  · obtain ⟨β', h1, h2, h3⟩ := app_nothing ok s e i.size
    exact ⟨_, _, β', run_append_owned_none w w.heap.size t ty e i i.size hu hi (.slice none 0 0) 0 [] (World.ownsRow_nil w _ e i.size), h1, h2, h3⟩
  · obtain ⟨news, hn1, hn2⟩ := news_of hE
    have hnl : news.length = es2.length * i.size := by rw [RepL_length hn1, AllLen_flat hal]
    obtain ⟨v', w', hrun, hown, hgr, _⟩ := run_append_own (P := P) w w.heap.size t ty e i z i.size i.bytes hu hi hz rfl rfl hzs hsz (.slice none 0 0) 0 [] (World.ownsRow_nil w _ e i.size) ⟨b, off, none⟩ es2.length cap news hnl hn2
      (RepL_one hn1) (by omega) (by rw [Nat.zero_add]; exact hb1) (Nat.le_refl _)
    have hbel : Below w.heap.size w w' := (Below.refl _ _).grown hgr (Nat.le_refl _) (fun k hk => by simp [Value.ownBlock] at hk)
    rw [Nat.zero_add] at hown
    obtain ⟨_, hown⟩ := hown
    rcases hown with ⟨rfl, hm⟩ | ⟨g, cap', cur, rfl, hg, hcur, hnc, hcm, hcs, htake⟩
    · have hes : es2 = [] := List.eq_nil_of_length_eq_zero hm
      subst hes
      obtain ⟨ok1, le1⟩ := ok.belowed hbel
      obtain ⟨β', h1, h2, h3⟩ := app_nothing ok1 s e i.size
      exact ⟨_, _, β', hrun, h1, le1.trans h2, h3⟩
    · obtain ⟨h1, h2⟩ := ok.adopt hbel s g hg (.arr e i.size es2) (fun c' hle hw _ => by
        refine ⟨hal, ok.hbase _ hg, cur, by rw [hw]; exact hcur, by rw [hcs]; exact Nat.mul_le_mul_right _ hnc, ?_⟩
        refine RepE_flat.2 (RepC_of (RepL.mono hle.pers _ _ hn1) fun j u hj => ?_)
        rw [Nat.zero_add, show c'.pers.w = w' from hw, cell_of_row w' g j cur e (0, 0) hcur]
        have : news[j]? = cur[j]? := by
          rw [← List.nil_append news, ← htake, List.getElem?_take, if_pos]
          · simp
          · have := (List.getElem?_eq_some_iff.1 hj).1
            omega
        rw [← this]
        exact hj)
      refine ⟨_, w', _, hrun, h1, h2, ?_⟩
      simp only [RepV]
      exact ⟨⟨Nat.succ_pos _, by simp [cx, upd]⟩, .inr ⟨g, cap', cur, e, by simp [cx, βnew], rfl, hnc, hcm, hcur, hcs⟩⟩

theorem op_app (hs : Sim X n base w0 st a w β) (hd : ∀ d, o.dst = some d → d < n) {t e : TypeId} {x y : Operand} (ho : o.op = .call { callee := .builtin .append, args := #[x, y], argTypes := #[t, t] })
    {i : TypeInfo} {z : Value} (hu : P.underlying t = some (.slice e)) (hi : P.info? e = some i) (hz : i.zero = some z) (hzs : z.cells.size = i.size) (hsz : 0 < i.size)
    {xs : List AV} (hr : RepT (cx X st.H w β) xs [a.eval x, a.eval y]) {F d} (h : stepH F (.app e i.size i.bytes) xs st.H d K) : Goal P X n base w0 o st K a w := by
  obtain ⟨p, q, rfl, hp, hq⟩ := RepT2 hr
  simp only [stepH, appQ] at h
  have hrs := read_sound hs.ok hq h
  clear h
  obtain ⟨es2, ⟨hal, h⟩, hy⟩ := hrs
  split at h
  · simp only [RepV] at hp
    obtain ⟨hb1, hb2, hK⟩ := h
    obtain ⟨v', w', β', hrun, h1, h2, h3⟩ := app_nil (P := P) (ty := o.type) hs.ok d hu hi hz hzs hsz hal hy hb1 hb2
    exact Goal.value hs hd hK (run_app (e := e) ho (by rw [hp]; exact hrun)) h1 h2 h3
  · rename_i s g sz0 m
    split at h
    · rename_i g' e' sz' es hH
      obtain ⟨hgg, rfl, rfl, rfl, rfl, hb1, hb2, hK⟩ := h
      subst hgg
      have hgen : (st.H s).1 = g := by rw [hH]
      obtain ⟨hal1, hblk⟩ := hs.ok.hp s g _ hH
      have hp' := hp
      simp only [RepV] at hp
      obtain ⟨hg, hp⟩ := hp
      rcases hp with ⟨hβ, hv, hn0⟩ | ⟨b, cap, cur, e0, hβ, hv, hn, hm, hcur, hcs⟩
      · have hes : es = [] := List.eq_nil_of_length_eq_zero hn0
        subst hes
        obtain ⟨v', w', β', hrun, h1, h2, h3⟩ := app_nil (P := P) (ty := o.type) hs.ok s hu hi hz hzs hsz hal hy (by simpa using hb1) (by simpa using hb2)
        rw [hgen] at h1 h2 h3
        simp only [List.length_nil, Nat.zero_add, List.nil_append] at hK
        exact Goal.value hs hd hK (run_app (e := e') ho (by rw [hv]; exact hrun)) h1 h2 h3
      · rw [show β s g = some b from hβ] at hblk
        obtain ⟨hbase, cur', hcur', hfit, hE⟩ := hblk
        have hcc : some (Obj.cells cur e0) = some (Obj.cells cur' e') := by
          have h1 : w.heap[b]? = some (.cells cur e0 (0, 0)) := hcur
          have h2 : w.heap[b]? = some (.cells cur' e' (0, 0)) := hcur'
          rw [← h1, ← h2]
        injection hcc with hcc
        injection hcc with e1 e2
        subst e1 e2
        have hcur2 : w.heap[b]? = some (.cells cur e0 (0, 0)) := hcur
        obtain ⟨olds, ho1, ho2⟩ := news_of hE
        have hol : olds.length = es.length * i.size := by rw [RepL_length ho1, AllLen_flat hal1]
        have hlt := (Array.getElem?_eq_some_iff.1 hcur2).1
        rcases hy with ⟨hyv, rfl⟩ | ⟨b2, off2, cap2, hyv, hc2, hb2', hE2⟩
        · -- nothing is appended
          have hown : w.ownsRow 0 e0 i.size (.slice (some ⟨b, 0, none⟩) es.length cap) es.length olds := by
            refine ⟨hol, .inr ⟨b, cap, cur, rfl, Nat.zero_le _, hcur2, hn, hm, hcs, ?_⟩⟩
            apply List.ext_getElem?
            intro j
            rw [List.getElem?_take]
            by_cases hj : j < es.length * i.size
            · rw [if_pos hj]
              have h1 : olds[j]? = some olds[j] := List.getElem?_eq_getElem (by omega)
              have h2 := ho2 j _ h1
              rw [Addr.add_lit, Nat.zero_add] at h2
              rw [show (cx X st.H w β).pers.w = w from rfl, cell_of_row w b j cur e0 (0, 0) hcur2] at h2
              rw [h1, ← h2]
              simp
            · rw [if_neg hj, List.getElem?_eq_none (by omega)]
          have hrun := run_append_owned_none (P := P) w 0 t o.type e0 i i.size hu hi _ _ _ hown
          obtain ⟨h1, h2⟩ := hs.ok.regen s (some b) (.arr e0 i.size es) trivial (fun c' hle hw => by
            refine ⟨hal1, hbase, cur, by rw [hw]; exact hcur2, hfit, RepE.mono hle.pers es b 0 (by rw [show c'.pers.w = w from hw]; rfl) hE⟩) (fun b' hb' => by
            injection hb' with hb'
            subst hb'
            exact ⟨g, _, hH, trivial, hβ⟩)
          rw [hgen] at h1 h2
          simp only [List.length_nil, Nat.add_zero, List.append_nil] at hK
          refine Goal.value hs hd hK (run_app (e := e0) ho (by rw [hv, hyv]; exact hrun)) h1 h2 ?_
          simp only [RepV]
          exact ⟨⟨Nat.succ_pos _, by simp [cx, updH, upd]⟩, .inr ⟨b, cap, cur, e0, by simp [cx, βset], rfl, hn, hm, hcur2, hcs⟩⟩
        · obtain ⟨news, hn1, hn2⟩ := news_of hE2
          have hnl : news.length = es2.length * i.size := by rw [RepL_length hn1, AllLen_flat hal]
          have hsum : (es ++ es2).length * i.size = es.length * i.size + es2.length * i.size := by rw [List.length_append, Nat.add_mul]
          by_cases hroom : es.length + es2.length ≤ cap
          · -- in place
            have hfit2 : es.length * i.size + news.length ≤ cur.size := by rw [hnl, hcs, ← Nat.add_mul]; exact Nat.mul_le_mul_right _ hroom
            have hrun := run_append_room (P := P) w t o.type e0 i hu hi b es.length cap cur hcur2 ⟨b2, off2, none⟩ es2.length cap2 news hnl hn2 (RepL_one hn1) hroom hfit2
            have hcl : cur.toList.length = cur.size := Array.length_toList
            have hs2 : (cur.toList.take (es.length * i.size) ++ news ++ cur.toList.drop (es.length * i.size + news.length)).toArray.size = cur.size := by
              simp only [List.size_toArray, List.length_append, List.length_take, List.length_drop]
              omega
            have hrepB : ∀ c' : Cx, (cx X st.H w β).Le c' → c'.w = w.setRow b (cur.toList.take (es.length * i.size) ++ news ++ cur.toList.drop (es.length * i.size + news.length)).toArray →
                RepB c' base (some b) (.arr e0 i.size (es ++ es2)) := by
              intro c' hle hw
              have hnew := setRow_heap w b cur (cur.toList.take (es.length * i.size) ++ news ++ cur.toList.drop (es.length * i.size + news.length)).toArray e0 (0, 0) hcur2
              rw [← hw] at hnew
              refine ⟨hal1.append hal, hbase, _, hnew, by rw [hs2]; omega, ?_⟩
              refine RepE_flat.2 ?_
              rw [List.flatten_append]
              refine RepC_append.2 ⟨RepC_of (RepL.mono hle.pers _ _ ho1) fun j u hj => ?_, RepC_of (RepL.mono hle.pers _ _ hn1) fun j u hj => ?_⟩
              · rw [Nat.zero_add, show c'.pers.w = c'.w from rfl, cell_of_row c'.w b j _ e0 (0, 0) hnew, List.getElem?_toArray, splice_get _ _ _ _ (by omega), if_neg]
                · have h2 := ho2 j u hj
                  rw [Addr.add_lit, Nat.zero_add] at h2
                  rw [show (cx X st.H w β).pers.w = w from rfl, cell_of_row w b j cur e0 (0, 0) hcur2] at h2
                  simpa using h2
                · have := (List.getElem?_eq_some_iff.1 hj).1
                  omega
              · rw [Nat.zero_add, AllLen_flat hal1, show c'.pers.w = c'.w from rfl, cell_of_row c'.w b _ _ e0 (0, 0) hnew, List.getElem?_toArray, splice_get _ _ _ _ (by omega), if_pos, ← hj]
                · congr 1
                  omega
                · have := (List.getElem?_eq_some_iff.1 hj).1
                  omega
            obtain ⟨ok1, le1⟩ := hs.ok.write hH trivial hβ hcur2 hs2 (.arr e0 i.size (es ++ es2)) trivial hrepB
            obtain ⟨ok2, le2⟩ := ok1.regen s (some b) (.arr e0 i.size (es ++ es2)) trivial (fun c' hle hw => hrepB c' (le1.trans hle) hw) (fun b' hb' => by
              injection hb' with hb'
              subst hb'
              exact ⟨g, _, upd_same _ _ _, trivial, hβ⟩)
            rw [upd_same] at ok2 le2
            simp only [upd_upd] at ok2 le2
            refine Goal.value hs hd hK (run_app (e := e0) ho (by rw [hv, hyv]; exact hrun)) ok2 (le1.trans le2) ?_
            simp only [RepV]
            refine ⟨⟨Nat.succ_pos _, by simp [cx, updH, upd]⟩, .inr ⟨b, cap, _, e0, by simp [cx, βset], rfl, hroom, hm, setRow_heap w b cur _ e0 (0, 0) hcur2, by rw [hs2]; exact hcs⟩⟩
          · -- a new array
            have hrun := run_append_grow (P := P) w t o.type e0 i z hu hi hz ⟨b, 0, none⟩ es.length cap olds hol ho2 ⟨b2, off2, none⟩ es2.length cap2 news hnl hn2 (by omega) (by omega) (growslice_fits (by omega) hb1)
            obtain ⟨okd, led⟩ := hs.ok.drew
            have hge := grownCap_ge w (es.length + es2.length) cap e0
            have hcm : grownCap w (es.length + es2.length) cap e0 ≤ maxLen := grownCap_le_maxLen w _ cap e0 (by simp only [maxLen]; omega)
            have hsz2 : (olds.toArray ++ news.toArray ++ Builtin.zeroCells z.cells (grownCap w (es.length + es2.length) cap e0 - (es.length + es2.length))).size = grownCap w (es.length + es2.length) cap e0 * i.size := by
              simp only [Array.size_append, List.size_toArray, size_zeroCells, hzs, hol, hnl, ← Nat.add_mul]
              congr 1
              omega
            obtain ⟨h1, h2, h3⟩ := view_new okd s (olds.toArray ++ news.toArray ++ Builtin.zeroCells z.cells (grownCap w (es.length + es2.length) cap e0 - (es.length + es2.length))) e0 i.size (grownCap w (es.length + es2.length) cap e0) (es ++ es2)
              (hal1.append hal) (by rw [List.length_append]; exact hge) hcm hsz2 (fun c' hle hw => by
                have hnew := heap_alloc_new w.drew (.cells (olds.toArray ++ news.toArray ++ Builtin.zeroCells z.cells (grownCap w (es.length + es2.length) cap e0 - (es.length + es2.length))) e0)
                rw [← hw] at hnew
                refine RepE_flat.2 ?_
                rw [List.flatten_append]
                refine RepC_append.2 ⟨RepC_of (RepL.mono (led.pers.trans hle) _ _ ho1) fun j u hj => ?_, RepC_of (RepL.mono (led.pers.trans hle) _ _ hn1) fun j u hj => ?_⟩
                · have hjl := (List.getElem?_eq_some_iff.1 hj).1
                  rw [Nat.zero_add, cell_of_row c'.w _ j _ e0 (0, 0) hnew, Array.getElem?_append_left (by simp; omega), Array.getElem?_append_left (by simpa using hjl)]
                  simpa using hj
                · have hjl := (List.getElem?_eq_some_iff.1 hj).1
                  rw [Nat.zero_add, AllLen_flat hal1, cell_of_row c'.w _ _ _ e0 (0, 0) hnew, Array.getElem?_append_left (by simp; omega), Array.getElem?_append_right (by simp; omega)]
                  simp only [List.size_toArray, hol]
                  rw [show es.length * i.size + j - es.length * i.size = j by omega]
                  simpa using hj)
            rw [hgen] at h1 h2 h3
            rw [List.length_append] at h3
            exact Goal.value hs hd hK (run_app (e := e0) ho (by rw [hv, hyv]; exact hrun)) h1 (led.trans h2) h3
    · exact h.elim
  · exact h.elim

end
end Go.Ev
