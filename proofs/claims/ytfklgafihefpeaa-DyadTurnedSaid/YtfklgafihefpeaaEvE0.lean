/- An abstract evaluator, part 14a: what a step hangs on. -/
import Derived.Test.YtfklgafihefpeaaEvD
set_option linter.unusedVariables false
set_option linter.unusedSimpArgs false
namespace Go.Ev

def refs1 : AV → List Nat
  | .ptr s _ _ => [s]
  | .eptr s _ _ _ _ => [s]
  | .view s _ _ _ => [s]
  | .sub s _ _ _ _ => [s]
  | _ => []

def refs : AV → List Nat
  | .agg cs => cs.flatMap refs1
  | v => refs1 v

/-- The sites that a step touches; true: it may write there. -/
def foot (hd : Head) (avs : List AV) (d : Nat) : List (Nat × Bool) :=
  match hd with
  | .move | .pick | .bin _ | .binB _ | .eqAgg _ _ | .un _ | .toInt _ | .s2b | .sliceS _ _ | .faddr _ | .field _ _ | .iaddr _ | .index | .extract _ | .lenS | .lenL | .max | .min | .mkfn _ | .isNil _ | .cap | .stop => []
  | .load _ | .b2s => (avs.flatMap refs).map (·, false)
  | .store _ | .build _ _ | .sliceL _ _ _ | .copy _ => (avs.flatMap refs).map (·, true)
  | .alloc _ | .box | .buildSl _ _ | .mkSl _ _ _ _ | .call _ | .callv | .app _ _ _ => (d, true) :: (avs.flatMap refs).map (·, true)

def sitesIn (us : Upds) (l : List Nat) : Prop := ∀ u ∈ us, u.1 ∈ l

/-- A step has come to v and us, by what lies at some sites alone, and writes at some of them alone. -/
def Picks (step : Heap → Kont → Prop) (h : Heap) (rd wr : List Nat) (v : AV) (us : Upds) : Prop :=
  sitesIn us wr ∧ ∀ h2 : Heap, (∀ s ∈ rd, h2 s = h s) → ∀ K : Kont, K v us → step h2 K

theorem Picks.weak {step : Heap → Kont → Prop} {h : Heap} {rd wr rd' wr' : List Nat} {v : AV} {us : Upds} (hp : Picks step h rd wr v us) (h1 : ∀ s ∈ rd, s ∈ rd') (h2 : ∀ s ∈ wr, s ∈ wr') : Picks step h rd' wr' v us :=
  ⟨fun u hu => h2 _ (hp.1 u hu), fun h3 ha => hp.2 h3 fun s hs => ha s (h1 s hs)⟩

theorem pure_picks {step : Heap → Kont → Prop} {h : Heap} {rd wr : List Nat} {v : AV} (hp : ∀ h2 K, K v [] → step h2 K) : Picks step h rd wr v [] := ⟨fun u hu => (by cases hu), fun h2 _ K hK => hp h2 K hK⟩

theorem loadQ_picks {h : Heap} {sz : Option Nat} {p : AV} {K : Kont} (hh : loadQ h sz p K) : ∃ v us, K v us ∧ Picks (fun h K => loadQ h sz p K) h (refs1 p) [] v us := by
  unfold loadQ at hh
  split at hh
  · rename_i s g k
    split at hh
    · rename_i g' cs hH
      obtain ⟨hg, hh⟩ := hh
      obtain ⟨v, hv, hK⟩ := someQ_elim hh
      refine ⟨v, [], hK, fun u hu => (by cases hu), fun h2 ha K hK => ?_⟩
      simp only [loadQ, ha s (by simp [refs1]), hH, hv]
      exact ⟨hg, hK⟩
    · exact hh.elim
  · rename_i s g esz i k
    split at hh
    · rename_i g' e sz' es hH
      obtain ⟨hg, hs, hh⟩ := hh
      obtain ⟨e', he, hh⟩ := someQ_elim hh
      obtain ⟨v, hv, hK⟩ := someQ_elim hh
      refine ⟨v, [], hK, fun u hu => (by cases hu), fun h2 ha K hK => ?_⟩
      simp only [loadQ, ha s (by simp [refs1]), hH, he, someQ, hv]
      exact ⟨hg, hs, hK⟩
    · rename_i g' e sz' es hH
      obtain ⟨hg, hs, hh⟩ := hh
      obtain ⟨e', he, hh⟩ := someQ_elim hh
      obtain ⟨v, hv, hK⟩ := someQ_elim hh
      refine ⟨v, [], hK, fun u hu => (by cases hu), fun h2 ha K hK => ?_⟩
      simp only [loadQ, ha s (by simp [refs1]), hH, he, someQ, hv]
      exact ⟨hg, hs, hK⟩
    · exact hh.elim
  · rename_i cs
    obtain ⟨v, hv, hK⟩ := someQ_elim hh
    exact ⟨v, [], hK, pure_picks fun h2 K hK => by simp only [loadQ, hv]; exact hK⟩
  · exact hh.elim

theorem storeQ_picks {h : Heap} {n : Nat} {p q : AV} {K : Kont} (hh : storeQ h n p q K) : ∃ v us, K v us ∧ Picks (fun h K => storeQ h n p q K) h (refs1 p) (refs1 p) v us := by
  unfold storeQ at hh
  obtain ⟨h0, hh⟩ := hh
  split at hh
  · rename_i s g k
    split at hh
    · rename_i g' cs hH
      obtain ⟨h1, h2, h3, hK⟩ := hh
      refine ⟨_, _, hK, fun u hu => by simp at hu; subst hu; simp [refs1], fun h2' ha K hK => ?_⟩
      simp only [storeQ, ha s (by simp [refs1]), hH]
      exact ⟨h0, h1, h2, h3, hK⟩
    · exact hh.elim
  · rename_i s g esz i k
    split at hh
    · rename_i g' e sz' es hH
      obtain ⟨h1, h2, h3, h4, hh⟩ := hh
      obtain ⟨x, hx, hK⟩ := someQ_elim hh
      refine ⟨_, _, hK, fun u hu => by simp at hu; subst hu; simp [refs1], fun h2' ha K hK => ?_⟩
      simp only [storeQ, ha s (by simp [refs1]), hH, hx, someQ]
      exact ⟨h0, h1, h2, h3, h4, hK⟩
    · exact hh.elim
  · exact hh.elim

theorem readQ_picks {h : Heap} {v : AV} {K : List (List AV) → Prop} (hh : readQ h v K) : ∃ es, K es ∧ ∀ h2 : Heap, (∀ s ∈ refs1 v, h2 s = h s) → ∀ K', K' es → readQ h2 v K' := by
  unfold readQ at hh
  split at hh
  · exact ⟨_, hh, fun h2 _ K' hK => hK⟩
  · exact ⟨_, hh, fun h2 _ K' hK => hK⟩
  · exact ⟨_, hh, fun h2 _ K' hK => hK⟩
  · rename_i s g sz n
    split at hh
    · rename_i g' e sz' es hH
      obtain ⟨h1, h2, h3, hK⟩ := hh
      refine ⟨_, hK, fun h2' ha K' hK => ?_⟩
      simp only [readQ, ha s (by simp [refs1]), hH]
      exact ⟨h1, h2, h3, hK⟩
    · rename_i g' e sz' es hH
      obtain ⟨h1, h2, h3, hK⟩ := hh
      refine ⟨_, hK, fun h2' ha K' hK => ?_⟩
      simp only [readQ, ha s (by simp [refs1]), hH]
      exact ⟨h1, h2, h3, hK⟩
    · exact hh.elim
  · exact hh.elim

theorem freezeQ_picks {h : Heap} {v : AV} {K : Kont} (hh : freezeQ h v K) : ∃ v' us, K v' us ∧ Picks (fun h K => freezeQ h v K) h (refs1 v) (refs1 v) v' us := by
  unfold freezeQ at hh
  split at hh
  · rename_i s g sz n
    split at hh
    · rename_i g' e sz' es hH
      obtain ⟨h1, h2, h3, hK⟩ := hh
      refine ⟨_, _, hK, fun u hu => by simp at hu; subst hu; simp [refs1], fun h2' ha K' hK => ?_⟩
      simp only [freezeQ, ha s (by simp [refs1]), hH]
      exact ⟨h1, h2, h3, hK⟩
    · rename_i g' e sz' es hH
      obtain ⟨h1, h2, h3, hK⟩ := hh
      refine ⟨_, _, hK, fun u hu => (by cases hu), fun h2' ha K' hK => ?_⟩
      simp only [freezeQ, ha s (by simp [refs1]), hH]
      exact ⟨h1, h2, h3, hK⟩
    · exact hh.elim
  all_goals first | exact ⟨_, _, hh, pure_picks fun h2 K hK => hK⟩ | exact hh.elim

def PicksL (step : Heap → (List AV → Upds → Prop) → Prop) (h : Heap) (l : List Nat) (vs : List AV) (us : Upds) : Prop :=
  sitesIn us l ∧ ∀ h2 : Heap, (∀ s ∈ l, h2 s = h s) → ∀ K, K vs us → step h2 K

theorem freezeLQ_picks {h : Heap} : ∀ {xs : List AV} {K : List AV → Upds → Prop} (_ : freezeLQ h xs K), ∃ ys us, K ys us ∧ PicksL (fun h K => freezeLQ h xs K) h (xs.flatMap refs1) ys us
  | [], K, hh => ⟨[], [], hh, fun u hu => (by cases hu), fun h2 _ K hK => hK⟩
  | x :: xs, K, hh => by
    simp only [freezeLQ] at hh
    obtain ⟨v', us, h1, p1⟩ := freezeQ_picks hh
    obtain ⟨ys, us', h2, p2⟩ := freezeLQ_picks h1
    refine ⟨v' :: ys, us ++ us', h2, fun u hu => ?_, fun h3 ha K hK => ?_⟩
    · rw [List.flatMap_cons]
      rcases List.mem_append.1 hu with hu | hu
      · exact List.mem_append.2 (.inl (p1.1 u hu))
      · exact List.mem_append.2 (.inr (p2.1 u hu))
    · rw [List.flatMap_cons] at ha
      simp only [freezeLQ]
      exact p1.2 h3 (fun s hs => ha s (List.mem_append.2 (.inl hs))) _ (p2.2 h3 (fun s hs => ha s (List.mem_append.2 (.inr hs))) _ hK)

theorem freezeAQ_picks {h : Heap} {v : AV} {K : Kont} (hh : freezeAQ h v K) : ∃ v' us, K v' us ∧ Picks (fun h K => freezeAQ h v K) h (refs v) (refs v) v' us := by
  by_cases hx : ∃ cs, v = .agg cs
  · obtain ⟨cs, rfl⟩ := hx
    simp only [freezeAQ] at hh
    obtain ⟨ys, us, h1, p1⟩ := freezeLQ_picks hh
    exact ⟨_, us, h1, p1.1, fun h2 ha K hK => by simp only [freezeAQ]; exact p1.2 h2 ha _ hK⟩
  · have e1 : ∀ h K, freezeAQ h v K = freezeQ h v K := by
      intro h K
      cases v <;> first | rfl | exact absurd ⟨_, rfl⟩ hx
    have e2 : refs v = refs1 v := by cases v <;> first | rfl | exact absurd ⟨_, rfl⟩ hx
    rw [e1] at hh
    obtain ⟨v', us, h1, p1⟩ := freezeQ_picks hh
    refine ⟨v', us, h1, ?_⟩
    rw [e2]
    exact ⟨p1.1, fun h2 ha K hK => by show freezeAQ h2 v K; rw [e1]; exact p1.2 h2 ha K hK⟩

theorem freezeALQ_picks {h : Heap} : ∀ {xs : List AV} {K : List AV → Upds → Prop} (_ : freezeALQ h xs K), ∃ ys us, K ys us ∧ PicksL (fun h K => freezeALQ h xs K) h (xs.flatMap refs) ys us
  | [], K, hh => ⟨[], [], hh, fun u hu => (by cases hu), fun h2 _ K hK => hK⟩
  | x :: xs, K, hh => by
    simp only [freezeALQ] at hh
    obtain ⟨v', us, h1, p1⟩ := freezeAQ_picks hh
    obtain ⟨ys, us', h2, p2⟩ := freezeALQ_picks h1
    refine ⟨v' :: ys, us ++ us', h2, fun u hu => ?_, fun h3 ha K hK => ?_⟩
    · rw [List.flatMap_cons]
      rcases List.mem_append.1 hu with hu | hu
      · exact List.mem_append.2 (.inl (p1.1 u hu))
      · exact List.mem_append.2 (.inr (p2.1 u hu))
    · rw [List.flatMap_cons] at ha
      simp only [freezeALQ]
      exact p1.2 h3 (fun s hs => ha s (List.mem_append.2 (.inl hs))) _ (p2.2 h3 (fun s hs => ha s (List.mem_append.2 (.inr hs))) _ hK)

theorem freezeNLQ_picks {h : Heap} : ∀ {xs : List AV} {K : List AV → Upds → Prop} (_ : freezeNLQ h xs K), ∃ ys us, K ys us ∧ PicksL (fun h K => freezeNLQ h xs K) h (xs.flatMap refs) ys us
  | [], K, hh => ⟨[], [], hh, fun u hu => (by cases hu), fun h2 _ K hK => hK⟩
  | x :: xs, K, hh => by
    simp only [freezeNLQ] at hh
    have hn : ∀ {K : Kont}, freezeNQ h x K → ∃ v' us, K v' us ∧ Picks (fun h K => freezeNQ h x K) h (refs x) (refs x) v' us := by
      intro K hh
      unfold freezeNQ at hh
      split at hh
      · exact ⟨_, _, hh, fun u hu => (by cases hu), fun h2 _ K hK => hK⟩
      · rename_i hx
        have e : ∀ h2 K, freezeNQ h2 x K = freezeAQ h2 x K := by
          intro h2 K
          unfold freezeNQ
          split
          · exact absurd rfl hx
          · rfl
        obtain ⟨v', us, h1, p1⟩ := freezeAQ_picks hh
        exact ⟨v', us, h1, p1.1, fun h2 ha K hK => by show freezeNQ h2 x K; rw [e]; exact p1.2 h2 ha K hK⟩
    obtain ⟨v', us, h1, p1⟩ := hn hh
    obtain ⟨ys, us', h2, p2⟩ := freezeNLQ_picks h1
    refine ⟨v' :: ys, us ++ us', h2, fun u hu => ?_, fun h3 ha K hK => ?_⟩
    · rw [List.flatMap_cons]
      rcases List.mem_append.1 hu with hu | hu
      · exact List.mem_append.2 (.inl (p1.1 u hu))
      · exact List.mem_append.2 (.inr (p2.1 u hu))
    · rw [List.flatMap_cons] at ha
      simp only [freezeNLQ]
      exact p1.2 h3 (fun s hs => ha s (List.mem_append.2 (.inl hs))) _ (p2.2 h3 (fun s hs => ha s (List.mem_append.2 (.inr hs))) _ hK)

theorem sliceQ_pick {n : Nat} {lo hi : Bool} {xs : List AV} {K : Nat → Nat → Prop} (hh : sliceQ n lo hi xs K) : ∃ a b, K a b ∧ ∀ K', K' a b → sliceQ n lo hi xs K' := by
  unfold sliceQ at hh ⊢
  simp only at hh ⊢
  split at hh
  · obtain ⟨h1, h2, h3, h4⟩ := hh
    exact ⟨_, _, h4, fun K' hK => ⟨h1, h2, h3, hK⟩⟩
  · exact hh.elim

theorem sliceAlt_picks {h : Heap} {sz : Nat} {lo hi : Bool} {x : AV} {xs : List AV} {K : Kont} (hh : sliceAlt h sz lo hi x xs K) : ∃ v us, K v us ∧ Picks (fun h K => sliceAlt h sz lo hi x xs K) h (refs1 x) (refs1 x) v us := by
  unfold sliceAlt at hh
  split at hh
  · rename_i s g sz' n
    obtain ⟨h1, hh⟩ := hh
    obtain ⟨l, m, hK, hp⟩ := sliceQ_pick hh
    rcases hK with ⟨hlt, hK⟩ | ⟨hl, hK⟩
    · exact ⟨_, _, hK, fun u hu => (by cases hu), fun h2 ha K' hK' => by simp only [sliceAlt]; exact ⟨h1, hp _ (.inl ⟨hlt, hK'⟩)⟩⟩
    · split at hK
      · rename_i g' e sz2 es hH
        obtain ⟨h2, h3, h4, hK⟩ := hK
        refine ⟨_, _, hK, fun u hu => by simp at hu; subst hu; simp [refs1], fun h5 ha K' hK' => ?_⟩
        simp only [sliceAlt, ha s (by simp [refs1]), hH]
        exact ⟨h1, hp _ (.inr ⟨hl, h2, h3, h4, hK'⟩)⟩
      · exact hK.elim
  · obtain ⟨l, m, hK, hp⟩ := sliceQ_pick hh
    exact ⟨_, _, hK, fun u hu => (by cases hu), fun h2 ha K' hK' => by simp only [sliceAlt]; exact hp _ hK'⟩
  · exact hh.elim

theorem callIO_picks {F : Nat → List AV → AV → Prop} {f : Nat} {h : Heap} {xs : List AV} {K : Kont} (hh : callIO F f xs h K) : ∃ v us, K v us ∧ Picks (fun h K => callIO F f xs h K) h (xs.flatMap refs) (xs.flatMap refs) v us := by
  unfold callIO at hh
  split at hh
  · rename_i s g sz off n xs
    split at hh
    · rename_i g' e sz' es hH
      obtain ⟨h1, h2, h3, hh⟩ := hh
      obtain ⟨ys, us, ⟨h4, r, es', h5, hK⟩, p1⟩ := freezeALQ_picks hh
      refine ⟨_, _, hK, fun u hu => ?_, fun h6 ha K' hK' => ?_⟩
      · rw [List.flatMap_cons]
        rcases List.mem_append.1 hu with hu | hu
        · exact List.mem_append.2 (.inr (p1.1 u hu))
        · simp at hu; subst hu; exact List.mem_append.2 (.inl (by simp [refs, refs1]))
      · rw [List.flatMap_cons] at ha
        simp only [callIO, ha s (List.mem_append.2 (.inl (by simp [refs, refs1]))), hH]
        exact ⟨h1, h2, h3, p1.2 h6 (fun s hs => ha s (List.mem_append.2 (.inr hs))) _ ⟨h4, r, es', h5, hK'⟩⟩
    · exact hh.elim
  · exact hh.elim

theorem recvQ_picks {h : Heap} {d : Nat} {r : AV} {us : Upds} {K : Kont} (hh : recvQ h d r us K) : ∃ v us', K v (us ++ us') ∧ (∀ u ∈ us', u.1 = d) ∧ ∀ h2 : Heap, h2 d = h d → ∀ K', K' v (us ++ us') → recvQ h2 d r us K' := by
  by_cases hown : ∃ e sz es, r = .own e sz es
  · obtain ⟨e, sz, es, rfl⟩ := hown
    simp only [recvQ] at hh ⊢
    refine ⟨_, _, hh, fun u hu => by simp at hu; rw [hu], fun h2 ha K' hK => ?_⟩
    rw [ha]
    exact hK
  · have e1 : ∀ h K, recvQ h d r us K = K r us := by
      intro h K
      cases r <;> first | rfl | exact absurd ⟨_, _, _, rfl⟩ hown
    rw [e1] at hh
    exact ⟨r, [], by rw [List.append_nil]; exact hh, fun u hu => (by cases hu), fun h2 _ K' hK => by rw [e1]; rw [List.append_nil] at hK; exact hK⟩

theorem buildGo_picks : ∀ {ps : List (Nat × Nat)} {z xs : List AV} {K : List AV → Prop} (_ : buildGo z ps xs K), ∃ cs, K cs ∧ ∀ K', K' cs → buildGo z ps xs K'
  | [], z, [], K, h => ⟨z, h, fun K' hK => hK⟩
  | [], z, _ :: _, K, h => h.elim
  | _ :: _, z, [], K, h => h.elim
  | (off, size) :: ps, z, v :: vs, K, h => by
    simp only [buildGo] at h
    obtain ⟨h1, h2, h3, h⟩ := h
    obtain ⟨cs, hK, h4⟩ := buildGo_picks h
    exact ⟨cs, hK, fun K' hK' => by simp only [buildGo]; exact ⟨h1, h2, h3, h4 K' hK'⟩⟩

theorem sliceQ_picks {n : Nat} {lo hi : Bool} {xs : List AV} {K : Nat → Nat → Prop} (h : sliceQ n lo hi xs K) : ∃ l r, K l r ∧ ∀ K', K' l r → sliceQ n lo hi xs K' := by
  unfold sliceQ at h ⊢
  simp only at h ⊢
  split at h
  · rename_i k1 l k2 r h1 h2
    obtain ⟨a1, a2, a3, hK⟩ := h
    exact ⟨_, _, hK, fun K' hK' => ⟨a1, a2, a3, hK'⟩⟩
  · exact h.elim

theorem intBin_picks {op : BinOp} {k : IntKind} {a b : Int} {K : AV → Prop} (h : intBin op k a b K) : ∃ v, K v ∧ ∀ K', K' v → intBin op k a b K' := by
  cases op <;> simp only [intBin] at h ⊢ <;> first | exact ⟨_, h, fun K' hK => hK⟩ | exact ⟨_, h.2, fun K' hK => ⟨h.1, hK⟩⟩

theorem strBin_picks {op : BinOp} {a b : ByteArray} {K : AV → Prop} (h : strBin op a b K) : ∃ v, K v ∧ ∀ K', K' v → strBin op a b K' := by
  cases op <;> simp only [strBin] at h ⊢ <;> first | exact ⟨_, h, fun K' hK => hK⟩ | exact ⟨_, h.2, fun K' hK => ⟨h.1, hK⟩⟩

theorem binQ_picks {op : BinOp} {x y : AV} {K : AV → Prop} (h : binQ op x y K) : ∃ v, K v ∧ ∀ K', K' v → binQ op x y K' := by
  unfold binQ at h ⊢
  split at h
  · split at h
    · exact ⟨_, h.2, fun K' hK => ⟨h.1, hK⟩⟩
    · exact ⟨_, h.2, fun K' hK => ⟨h.1, hK⟩⟩
    · obtain ⟨h3, h⟩ := h
      obtain ⟨v, hK, hv⟩ := intBin_picks h
      exact ⟨v, hK, fun K' hK' => ⟨h3, hv K' hK'⟩⟩
  · exact strBin_picks h
  · exact h.elim

theorem unQ_picks {op : UnOp} {x : AV} {K : AV → Prop} (h : unQ op x K) : ∃ v, K v ∧ ∀ K', K' v → unQ op x K' := by
  unfold unQ at h ⊢
  split at h <;> first | exact ⟨_, h, fun K' hK => hK⟩ | exact h.elim

theorem appQ_picks {h : Heap} {d e sz bytes : Nat} {x y : AV} {K : Kont} (hh : appQ h d e sz bytes x y K) :
    ∃ v us, K v us ∧ Picks (fun h K => appQ h d e sz bytes x y K) h (d :: (refs1 x ++ refs1 y)) (d :: (refs1 x ++ refs1 y)) v us := by
  unfold appQ at hh
  have hx := readQ_picks hh
  clear hh
  obtain ⟨es, ⟨hal, hh⟩, hr⟩ := hx
  have hr' : ∀ h2 : Heap, (∀ s ∈ d :: (refs1 x ++ refs1 y), h2 s = h s) → ∀ K', K' es → readQ h2 y K' := fun h2 ha => hr h2 fun s hs => ha s (List.mem_cons_of_mem _ (List.mem_append.2 (.inr hs)))
  split at hh
  · obtain ⟨h1, h2, hK⟩ := hh
    refine ⟨_, _, hK, fun u hu => by simp at hu; subst hu; simp, fun h3 ha K' hK' => ?_⟩
    simp only [appQ]
    refine hr' h3 ha _ ⟨hal, h1, h2, ?_⟩
    rw [ha d (by simp)]
    exact hK'
  · rename_i s g sz0 n
    split at hh
    · rename_i g' e' sz' es' hH
      obtain ⟨h1, h2, h3, h4, h5, h6, h7, hK⟩ := hh
      refine ⟨_, _, hK, fun u hu => by simp at hu; subst hu; simp [refs1], fun h8 ha K' hK' => ?_⟩
      simp only [appQ]
      refine hr' h8 ha _ ⟨hal, ?_⟩
      rw [ha s (by simp [refs1]), hH]
      exact ⟨h1, h2, h3, h4, h5, h6, h7, hK'⟩
    · exact hh.elim
  · exact hh.elim

theorem copyQ_picks {h : Heap} {sz : Nat} {x y : AV} {K : Kont} (hh : copyQ h sz x y K) :
    ∃ v us, K v us ∧ Picks (fun h K => copyQ h sz x y K) h (refs1 x ++ refs1 y) (refs1 x ++ refs1 y) v us := by
  unfold copyQ at hh
  have hx := readQ_picks hh
  clear hh
  obtain ⟨es, ⟨hal, hh⟩, hr⟩ := hx
  have hr' : ∀ h2 : Heap, (∀ s ∈ refs1 x ++ refs1 y, h2 s = h s) → ∀ K', K' es → readQ h2 y K' := fun h2 ha => hr h2 fun s hs => ha s (List.mem_append.2 (.inr hs))
  split at hh
  · rename_i s g sz0 n
    split at hh
    · rename_i g' e' sz' es' hH
      obtain ⟨h1, h2, h3, h4, hK⟩ := hh
      refine ⟨_, _, hK, fun u hu => by simp at hu; subst hu; simp [refs1], fun h8 ha K' hK' => ?_⟩
      simp only [copyQ]
      refine hr' h8 ha _ ⟨hal, ?_⟩
      rw [ha s (by simp [refs1]), hH]
      exact ⟨h1, h2, h3, h4, hK'⟩
    · exact hh.elim
  · exact hh.elim

def rdOf (f : List (Nat × Bool)) : List Nat := f.map (·.1)
def wrOf (f : List (Nat × Bool)) : List Nat := (f.filter (·.2)).map (·.1)

theorem refs1_refs (v : AV) : ∀ s ∈ refs1 v, s ∈ refs v := by
  intro s hs
  cases v <;> first | exact hs | (simp [refs1] at hs)

theorem mem_rd_true (l : List Nat) : rdOf (l.map (·, true)) = l := by simp [rdOf, Function.comp_def]
theorem mem_wr_true (l : List Nat) : wrOf (l.map (·, true)) = l := by
  induction l with
  | nil => rfl
  | cons x l ih => simp [wrOf] at ih ⊢; exact ih
theorem mem_rd_false (l : List Nat) : rdOf (l.map (·, false)) = l := by simp [rdOf, Function.comp_def]

theorem stepH_picks {F : Nat → List AV → AV → Prop} {hd : Head} {avs : List AV} {h : Heap} {d : Nat} {K : Kont} (hh : stepH F hd avs h d K) :
    ∃ v us, K v us ∧ Picks (fun h K => stepH F hd avs h d K) h (rdOf (foot hd avs d)) (wrOf (foot hd avs d)) v us := by
  unfold stepH at hh
  split at hh
  case h_1 x => exact ⟨_, _, hh, pure_picks fun h2 K hK => by simp only [stepH]; exact hK⟩
  case h_2 b x y => exact ⟨_, _, hh, pure_picks fun h2 K hK => by simp only [stepH]; exact hK⟩
  case h_3 z =>
    refine ⟨_, _, hh, fun u hu => ?_, fun h2 ha K hK => ?_⟩
    · simp at hu; subst hu; simp [foot, wrOf]
    · simp only [stepH, allocQ]; rw [ha d (by simp [foot, rdOf])]; exact hK
  case h_4 x =>
    obtain ⟨h1, hh⟩ := hh
    refine ⟨_, _, hh, fun u hu => ?_, fun h2 ha K hK => ?_⟩
    · simp at hu; subst hu; simp [foot, wrOf]
    · simp only [stepH, allocQ]; rw [ha d (by simp [foot, rdOf])]; exact ⟨h1, hK⟩
  case h_5 z ps =>
    obtain ⟨ys, us, h1, p1⟩ := freezeNLQ_picks hh
    obtain ⟨cs, hK, h2⟩ := buildGo_picks h1
    refine ⟨_, us, hK, fun u hu => ?_, fun h3 ha K' hK' => ?_⟩
    · simp only [foot, mem_wr_true]; exact p1.1 u hu
    · simp only [stepH]; exact p1.2 h3 (fun s hs => ha s (by simp only [foot, mem_rd_true]; exact hs)) _ (h2 _ hK')
  case h_6 e sz =>
    obtain ⟨ys, us, ⟨h1, hK⟩, p1⟩ := freezeALQ_picks hh
    refine ⟨_, _, hK, fun u hu => ?_, fun h3 ha K' hK' => ?_⟩
    · simp only [foot, wrOf, List.filter_cons_of_pos, List.map_cons]
      rcases List.mem_append.1 hu with hu | hu
      · exact List.mem_cons_of_mem _ (by have := mem_wr_true (avs.flatMap refs); unfold wrOf at this; rw [this]; exact p1.1 u hu)
      · simp at hu; subst hu; simp
    · simp only [stepH]
      refine p1.2 h3 (fun s hs => ha s (by simp only [foot, rdOf, List.map_cons]; exact List.mem_cons_of_mem _ (by have := mem_rd_true (avs.flatMap refs); unfold rdOf at this; rw [this]; exact hs))) _ ⟨h1, ?_⟩
      rw [ha d (by simp [foot, rdOf])]
      exact hK'
  case h_7 sz p =>
    obtain ⟨v, us, hK, p1⟩ := loadQ_picks hh
    refine ⟨v, us, hK, fun u hu => (by cases p1.1 u hu), fun h3 ha K' hK' => ?_⟩
    simp only [stepH]
    exact p1.2 h3 (fun s hs => ha s (by simp only [foot, mem_rd_false]; simp; exact refs1_refs _ s hs)) _ hK'
  case h_8 n p v =>
    obtain ⟨v', us, hK, p1⟩ := storeQ_picks hh
    refine ⟨v', us, hK, fun u hu => ?_, fun h3 ha K' hK' => ?_⟩
    · simp only [foot, mem_wr_true]; simp; exact .inl (refs1_refs _ _ (p1.1 u hu))
    · simp only [stepH]
      exact p1.2 h3 (fun s hs => ha s (by simp only [foot, mem_rd_true]; simp; exact .inl (refs1_refs _ s hs))) _ hK'
  case h_9 op x y =>
    obtain ⟨v, hK, p1⟩ := binQ_picks hh
    exact ⟨v, [], hK, pure_picks fun h2 K hK => by simp only [stepH]; exact p1 _ hK⟩
  case h_10 neg a b => exact ⟨_, _, hh, pure_picks fun h2 K hK => by simp only [stepH]; exact hK⟩
  case h_11 neg ks x y =>
    obtain ⟨b, hb, hK⟩ := someQ_elim hh
    exact ⟨_, _, hK, pure_picks fun h2 K hK => by simp only [stepH, hb, someQ]; exact hK⟩
  case h_12 op x =>
    obtain ⟨v, hK, p1⟩ := unQ_picks hh
    exact ⟨v, [], hK, pure_picks fun h2 K hK => by simp only [stepH]; exact p1 _ hK⟩
  case h_13 k k' n => exact ⟨_, _, hh, pure_picks fun h2 K hK => by simp only [stepH]; exact hK⟩
  case h_14 x =>
    obtain ⟨es, h1, hr⟩ := readQ_picks hh
    obtain ⟨l, hl, hK⟩ := someQ_elim h1
    refine ⟨_, [], hK, fun u hu => (by cases hu), fun h3 ha K' hK' => ?_⟩
    simp only [stepH]
    refine hr h3 (fun s hs => ha s (by simp only [foot, mem_rd_false]; simp; exact refs1_refs _ s hs)) _ ?_
    simp only [hl, someQ]
    exact hK'
  case h_15 s => exact ⟨_, _, hh, pure_picks fun h2 K hK => by simp only [stepH]; exact hK⟩
  case h_16 e sz bytes z k n k' c =>
    obtain ⟨h1, h2, h3, h4, hK⟩ := hh
    refine ⟨_, _, hK, fun u hu => ?_, fun h2' ha K hK => ?_⟩
    · simp at hu; subst hu; simp [foot, wrOf]
    · simp only [stepH, allocQ]; rw [ha d (by simp [foot, rdOf])]; exact ⟨h1, h2, h3, h4, hK⟩
  case h_17 lo hi s xs =>
    obtain ⟨l, r, hK, p1⟩ := sliceQ_picks hh
    exact ⟨_, [], hK, pure_picks fun h2 K hK => by simp only [stepH]; exact p1 _ hK⟩
  case h_18 sz lo hi x xs =>
    rcases hh with hh | hh
    · have hx := freezeQ_picks hh
      clear hh
      obtain ⟨x', us, hh, p1⟩ := hx
      split at hh
      · rename_i es
        obtain ⟨hal, hh⟩ := hh
        obtain ⟨l, r, hK, p2⟩ := sliceQ_picks hh
        refine ⟨_, us, hK, fun u hu => ?_, fun h3 ha K' hK' => ?_⟩
        · simp only [foot, mem_wr_true, List.flatMap_cons, List.mem_append]; exact .inl (refs1_refs _ _ (p1.1 u hu))
        · simp only [stepH]
          exact .inl (p1.2 h3 (fun s hs => ha s (by simp only [foot, mem_rd_true, List.flatMap_cons, List.mem_append]; exact .inl (refs1_refs _ s hs))) _ ⟨hal, p2 _ hK'⟩)
      · exact hh.elim
    · obtain ⟨v, us, hK, p1⟩ := sliceAlt_picks hh
      refine ⟨v, us, hK, fun u hu => ?_, fun h3 ha K' hK' => ?_⟩
      · simp only [foot, mem_wr_true, List.flatMap_cons, List.mem_append]; exact .inl (refs1_refs _ _ (p1.1 u hu))
      · simp only [stepH]
        exact .inr (p1.2 h3 (fun s hs => ha s (by simp only [foot, mem_rd_true, List.flatMap_cons, List.mem_append]; exact .inl (refs1_refs _ s hs))) _ hK')
  case h_19 off p =>
    split at hh
    · exact ⟨_, _, hh, pure_picks fun h2 K hK => by simp only [stepH]; exact hK⟩
    · exact ⟨_, _, hh, pure_picks fun h2 K hK => by simp only [stepH]; exact hK⟩
    · exact ⟨_, _, hh, pure_picks fun h2 K hK => by simp only [stepH]; exact hK⟩
    · exact hh.elim
  case h_20 off sz cs =>
    obtain ⟨v, hv, hK⟩ := someQ_elim hh
    exact ⟨_, _, hK, pure_picks fun h2 K hK => by simp only [stepH, hv, someQ]; exact hK⟩
  case h_21 sz x k i =>
    obtain ⟨h0, hh⟩ := hh
    split at hh
    · obtain ⟨hal, hh⟩ := hh
      obtain ⟨e, he, hK⟩ := someQ_elim hh
      exact ⟨_, _, hK, pure_picks fun h2 K hK => by simp only [stepH, he, someQ]; exact ⟨h0, hal, hK⟩⟩
    · obtain ⟨h1, h2, hK⟩ := hh
      exact ⟨_, _, hK, pure_picks fun h2' K hK => by simp only [stepH]; exact ⟨h0, h1, h2, hK⟩⟩
    · obtain ⟨h1, h2, hK⟩ := hh
      exact ⟨_, _, hK, pure_picks fun h2' K hK => by simp only [stepH]; exact ⟨h0, h1, h2, hK⟩⟩
    · exact hh.elim
  case h_22 s k i =>
    obtain ⟨h0, hh⟩ := hh
    obtain ⟨b, hb, hK⟩ := someQ_elim hh
    exact ⟨_, _, hK, pure_picks fun h2 K hK => by simp only [stepH, hb, someQ]; exact ⟨h0, hK⟩⟩
  case h_23 i vs =>
    obtain ⟨b, hb, hK⟩ := someQ_elim hh
    exact ⟨_, _, hK, pure_picks fun h2 K hK => by simp only [stepH, hb, someQ]; exact hK⟩
  case h_24 f =>
    rcases hh with hh | hh | hh
    · obtain ⟨ys, us, ⟨r, hF, h1⟩, p1⟩ := freezeALQ_picks hh
      obtain ⟨v, us', hK, p2, p3⟩ := recvQ_picks h1
      refine ⟨v, us ++ us', hK, fun u hu => ?_, fun h3 ha K' hK' => ?_⟩
      · simp only [foot, wrOf, List.filter_cons_of_pos, List.map_cons]
        rcases List.mem_append.1 hu with hu | hu
        · exact List.mem_cons_of_mem _ (by have := mem_wr_true (avs.flatMap refs); unfold wrOf at this; rw [this]; exact p1.1 u hu)
        · rw [p2 u hu]; simp
      · simp only [stepH]
        exact .inl (p1.2 h3 (fun s hs => ha s (by simp only [foot, rdOf, List.map_cons]; exact List.mem_cons_of_mem _ (by have := mem_rd_true (avs.flatMap refs); unfold rdOf at this; rw [this]; exact hs))) _ ⟨r, hF, p3 h3 (ha d (by simp [foot, rdOf])) _ hK'⟩)
    · obtain ⟨ys, us, ⟨r, hF, h1⟩, p1⟩ := freezeNLQ_picks hh
      obtain ⟨v, us', hK, p2, p3⟩ := recvQ_picks h1
      refine ⟨v, us ++ us', hK, fun u hu => ?_, fun h3 ha K' hK' => ?_⟩
      · simp only [foot, wrOf, List.filter_cons_of_pos, List.map_cons]
        rcases List.mem_append.1 hu with hu | hu
        · exact List.mem_cons_of_mem _ (by have := mem_wr_true (avs.flatMap refs); unfold wrOf at this; rw [this]; exact p1.1 u hu)
        · rw [p2 u hu]; simp
      · simp only [stepH]
        exact .inr (.inl (p1.2 h3 (fun s hs => ha s (by simp only [foot, rdOf, List.map_cons]; exact List.mem_cons_of_mem _ (by have := mem_rd_true (avs.flatMap refs); unfold rdOf at this; rw [this]; exact hs))) _ ⟨r, hF, p3 h3 (ha d (by simp [foot, rdOf])) _ hK'⟩))
    · obtain ⟨v, us, hK, p1⟩ := callIO_picks hh
      refine ⟨v, us, hK, fun u hu => ?_, fun h3 ha K' hK' => ?_⟩
      · simp only [foot, wrOf, List.filter_cons_of_pos, List.map_cons]
        exact List.mem_cons_of_mem _ (by have := mem_wr_true (avs.flatMap refs); unfold wrOf at this; rw [this]; exact p1.1 u hu)
      · simp only [stepH]
        exact .inr (.inr (p1.2 h3 (fun s hs => ha s (by simp only [foot, rdOf, List.map_cons]; exact List.mem_cons_of_mem _ (by have := mem_rd_true (avs.flatMap refs); unfold rdOf at this; rw [this]; exact hs))) _ hK'))
  case h_25 f xs =>
    obtain ⟨ys, us, ⟨r, hF, h1⟩, p1⟩ := freezeALQ_picks hh
    obtain ⟨v, us', hK, p2, p3⟩ := recvQ_picks h1
    have hfl : (AV.fn f :: xs).flatMap refs = xs.flatMap refs := by simp [refs, refs1]
    refine ⟨v, us ++ us', hK, fun u hu => ?_, fun h3 ha K' hK' => ?_⟩
    · simp only [foot, wrOf, List.filter_cons_of_pos, List.map_cons, hfl]
      rcases List.mem_append.1 hu with hu | hu
      · exact List.mem_cons_of_mem _ (by have := mem_wr_true (xs.flatMap refs); unfold wrOf at this; rw [this]; exact p1.1 u hu)
      · rw [p2 u hu]; simp
    · simp only [stepH]
      exact p1.2 h3 (fun s hs => ha s (by simp only [foot, rdOf, List.map_cons, hfl]; exact List.mem_cons_of_mem _ (by have := mem_rd_true (xs.flatMap refs); unfold rdOf at this; rw [this]; exact hs))) _ ⟨r, hF, p3 h3 (ha d (by simp [foot, rdOf])) _ hK'⟩
  case h_26 s => exact ⟨_, _, hh, pure_picks fun h2 K hK => by simp only [stepH]; exact hK⟩
  case h_27 x =>
    split at hh
    · exact ⟨_, _, hh, pure_picks fun h2 K hK => by simp only [stepH]; exact hK⟩
    · exact ⟨_, _, hh, pure_picks fun h2 K hK => by simp only [stepH]; exact hK⟩
    · exact ⟨_, _, hh, pure_picks fun h2 K hK => by simp only [stepH]; exact hK⟩
    · exact hh.elim
  case h_28 e sz bytes x y =>
    obtain ⟨v, us, hK, p1⟩ := appQ_picks hh
    have hsub : ∀ s ∈ d :: (refs1 x ++ refs1 y), s ∈ d :: [x, y].flatMap refs := by
      intro s hs
      simp only [List.mem_cons, List.mem_append, List.flatMap_cons, List.flatMap_nil, List.append_nil] at hs ⊢
      rcases hs with h | h | h
      · exact .inl h
      · exact .inr (.inl (refs1_refs _ s h))
      · exact .inr (.inr (refs1_refs _ s h))
    have h1 : rdOf (foot (.app e sz bytes) [x, y] d) = d :: [x, y].flatMap refs := by simp only [foot]; have := mem_rd_true (d :: [x, y].flatMap refs); simpa using this
    have h2 : wrOf (foot (.app e sz bytes) [x, y] d) = d :: [x, y].flatMap refs := by simp only [foot]; have := mem_wr_true (d :: [x, y].flatMap refs); simpa using this
    rw [h1, h2]
    exact ⟨v, us, hK, fun u hu => hsub _ (p1.1 u hu), fun h3 ha K' hK' => by simp only [stepH]; exact p1.2 h3 (fun s hs => ha s (hsub s hs)) _ hK'⟩
  case h_29 sz x y =>
    obtain ⟨v, us, hK, p1⟩ := copyQ_picks hh
    have hsub : ∀ s ∈ refs1 x ++ refs1 y, s ∈ [x, y].flatMap refs := by
      intro s hs
      simp only [List.mem_append, List.flatMap_cons, List.flatMap_nil, List.append_nil] at hs ⊢
      rcases hs with h | h
      · exact .inl (refs1_refs _ s h)
      · exact .inr (refs1_refs _ s h)
    simp only [foot, mem_rd_true, mem_wr_true]
    exact ⟨v, us, hK, fun u hu => hsub _ (p1.1 u hu), fun h3 ha K' hK' => by simp only [stepH]; exact p1.2 h3 (fun s hs => ha s (hsub s hs)) _ hK'⟩
  case h_30 k a k' b => exact ⟨_, _, hh.2, pure_picks fun h2 K hK => by simp only [stepH]; exact ⟨hh.1, hK⟩⟩
  case h_31 k a k' b => exact ⟨_, _, hh.2, pure_picks fun h2 K hK => by simp only [stepH]; exact ⟨hh.1, hK⟩⟩
  case h_32 f => exact ⟨_, _, hh, pure_picks fun h2 K hK => by simp only [stepH]; exact hK⟩
  case h_33 neg es => exact ⟨_, _, hh, pure_picks fun h2 K hK => by simp only [stepH]; exact hK⟩
  case h_34 neg => exact ⟨_, _, hh, pure_picks fun h2 K hK => by simp only [stepH]; exact hK⟩
  case h_35 => exact ⟨_, _, hh, pure_picks fun h2 K hK => by simp only [stepH]; exact hK⟩
  case h_36 => exact hh.elim

end Go.Ev
