/- A region that draws its order, some of whose operations change the world one behind the other: walked once, in the order of the text. What is asked: every other operation yields one value in every world of every stage; the changing ones lead from stage to stage. Then a tail in the order of the text. -/
import Derived.Test.YtkicnjbidbfajaaRegion
namespace Go.Proofs.Ytkicnjbidbfajaa
/-- A world of some stage. -/
structure WSt (CC : Nat → World → Prop) where
  k : Nat
  w : World
  ok : CC k w
section
variable {P : Program} {ops : Array Oper} {md : Region.Mode} {CC : Nat → World → Prop} {eff : List Nat} {n : Nat}

/-- What one changing operation yields, and where it leads. -/
def upTo (P : Program) (T : World → Prop) (v : Value) : Result Next → Prop
  | .ok (.value u) w' => u = v ∧ T w'
  | .ok .skip w' => v = undef ∧ T w'
  | .ok (.enter f args) w' => Calls P f args w' (fun e w'' => e = .returned v ∧ T w'')
  | _ => False

/-- What is asked of operation i, in state a. -/
def goesTo (P : Program) (CC : Nat → World → Prop) (eff : List Nat) (i : Nat) (o : Oper) (a : Act) (v : Value) : Prop :=
  if i ∈ eff then ∀ x : WIn (CC (eff.idxOf i)), upTo P (CC (eff.idxOf i + 1)) v ((execOp a.eval o).run P x.w) else ∀ x : WSt CC, Oper.quietUpon P (CC x.k) x.w v ((execOp a.eval o).run P x.w)
/-- It is left out by its guard. -/
def leftTo (CC : Nat → World → Prop) (eff : List Nat) (i : Nat) : Prop := i ∈ eff → ∀ w, CC (eff.idxOf i) w → CC (eff.idxOf i + 1) w

def sOp (P : Program) (ops : Array Oper) (CC : Nat → World → Prop) (eff : List Nat) (i : Nat) (K : Act → Prop) (a : Act) : Prop :=
  match ops[i]? with
  | none => K a
  | some o => if Region.wanted o (yielded ops a.tmps) then ∃ v, goesTo P CC eff i o a v ∧ K (a.put o.dst v) else leftTo CC eff i ∧ K (a.put o.dst undef)

/-- In state a operation i comes to the value v. -/
def comesTo (P : Program) (ops : Array Oper) (CC : Nat → World → Prop) (eff : List Nat) (i : Nat) (o : Oper) (v : Value) (a : Act) : Prop :=
  (Region.wanted o (yielded ops a.tmps) = true ∧ goesTo P CC eff i o a v) ∨ (Region.wanted o (yielded ops a.tmps) = false ∧ leftTo CC eff i ∧ v = undef)

theorem sOp_mono {i : Nat} {a : Act} {K K' : Act → Prop} (h : ∀ a, K a → K' a) (hh : sOp P ops CC eff i K a) : sOp P ops CC eff i K' a := by
  unfold sOp at *
  cases ho : ops[i]? with
  | none => simp only [ho] at hh ⊢; exact h _ hh
  | some o =>
    simp only [ho] at hh ⊢
    by_cases hw : Region.wanted o (yielded ops a.tmps) = true
    · simp only [hw, if_true] at hh ⊢
      exact ⟨hh.choose, hh.choose_spec.1, h _ hh.choose_spec.2⟩
    · simp only [hw] at hh ⊢
      exact ⟨hh.1, h _ hh.2⟩

theorem comesTo.sOp {i : Nat} {o : Oper} {v : Value} {a : Act} (hi : ops[i]? = some o) (hy : comesTo P ops CC eff i o v a) {K : Act → Prop} (h : K (a.put o.dst v)) : sOp P ops CC eff i K a := by
  unfold Proofs.Ytkicnjbidbfajaa.sOp
  simp only [hi]
  rcases hy with ⟨hw, hv⟩ | ⟨hw, hl, rfl⟩
  · simp only [hw, if_true]; exact ⟨v, hv, h⟩
  · simp only [hw, Bool.false_eq_true, if_false]; exact ⟨hl, h⟩

theorem comesTo_of_sOp {i : Nat} {o : Oper} {a : Act} {K : Act → Prop} (hi : ops[i]? = some o) (h : sOp P ops CC eff i K a) : ∃ v, comesTo P ops CC eff i o v a ∧ K (a.put o.dst v) := by
  unfold sOp at h
  simp only [hi] at h
  by_cases hw : Region.wanted o (yielded ops a.tmps) = true
  · simp only [hw, if_true] at h
    exact ⟨h.choose, .inl ⟨hw, h.choose_spec.1⟩, h.choose_spec.2⟩
  · simp only [hw] at h
    exact ⟨undef, .inr ⟨by simpa using hw, h.1, rfl⟩, h.2⟩

theorem sOp_put {i j : Nat} {oi oj : Oper} {v : Value} (hj : ops[j]? = some oj) (hap : oi.apart ops oj = true)
    (hsi : ∀ cs b, oi.op ≠ .select cs b) (hsj : ∀ cs b, oj.op ≠ .select cs b) {K : Act → Prop} {a : Act}
    (hy : comesTo P ops CC eff i oi v a) (h : sOp P ops CC eff j K (a.put oi.dst v)) :
    sOp P ops CC eff j (fun a' => comesTo P ops CC eff i oi v a' ∧ K (a'.put oi.dst v)) a := by
  obtain ⟨h1, h2, h3⟩ := Oper.apart_spec hap
  have keep : ∀ u, comesTo P ops CC eff i oi v (a.put oj.dst u) := fun u => by
    unfold comesTo goesTo at *
    rw [execOp_put oi hsi a oj.dst u h3, wanted_put oi a oj.dst u h3]
    exact hy
  unfold sOp at *
  simp only [hj] at *
  rw [wanted_put oj a oi.dst v h1] at h
  by_cases hw : Region.wanted oj (yielded ops a.tmps) = true
  · simp only [hw, if_true] at h ⊢
    obtain ⟨u, hu, hn⟩ := h
    refine ⟨u, ?_, keep u, by rw [← Act.put_comm a v u h2]; exact hn⟩
    unfold goesTo at *
    rwa [execOp_put oj hsj a oi.dst v h1] at hu
  · simp only [hw] at h ⊢
    exact ⟨h.1, keep _, by rw [← Act.put_comm a v undef h2]; exact h.2⟩

/-- How many of the changing ones are listed, from the first on. -/
def stageOf (eff : List Nat) (s : Array Bool) : Nat := (eff.takeWhile fun j => s.getD j false).length
/-- Each changing one waits for the one ahead of it. -/
def chainOf (md : Region.Mode) (ops : Array Oper) : List Nat → Bool
  | i :: j :: l => Region.waitsFor md ops j i && chainOf md ops (j :: l)
  | _ => true

theorem listed_of_waits {s : Array Bool} (inv : HeadInv md ops n s) {i j : Nat} (hw : Region.waitsFor md ops j i = true) (hj : s.getD j false = true) : s.getD i false = true := by
  obtain ⟨oj, hoj, e, he, hb, hon⟩ := Region.waitsFor_spec hw
  rw [← hon]
  exact inv.closed j oj hoj hj e he hb

theorem stage_ready {s : Array Bool} (inv : HeadInv md ops n s) {i : Nat} (hi : i ∈ Region.ready md ops s) : ∀ (eff : List Nat), chainOf md ops eff = true → eff.Nodup → i ∈ eff →
    stageOf eff s = eff.idxOf i ∧ stageOf eff (s.setIfInBounds i true) = eff.idxOf i + 1
  | [], _, _, h => by cases h
  | [j], _, _, h => by
    obtain rfl : i = j := by simpa using h
    obtain ⟨hun, oi, hoi, hall⟩ := mem_ready.1 hi
    have hlt : i < s.size := by
      rcases Nat.lt_or_ge i s.size with h' | h'
      · exact h'
      · simp [h'] at hun
    have hf : s.getD i false = false := getD_both hun
    have ht : (s.setIfInBounds i true).getD i false = true := by simp [hlt]
    simp [stageOf, List.takeWhile, hf, ht]
  | j :: k :: l, hc, hnd, h => by
    simp only [chainOf, Bool.and_eq_true] at hc
    obtain ⟨hun, oi, hoi, hall⟩ := mem_ready.1 hi
    have hlt : i < s.size := by
      rcases Nat.lt_or_ge i s.size with h' | h'
      · exact h'
      · simp [h'] at hun
    have hf : s.getD i false = false := getD_both hun
    have ht : (s.setIfInBounds i true).getD i false = true := by simp [hlt]
    by_cases hij : i = j
    · subst hij
      have hkl : s.getD k false = false := by
        cases hk : s.getD k false with
        | false => rfl
        | true => rw [listed_of_waits inv hc.1 hk] at hf; cases hf
      have hik : i ≠ k := by rintro rfl; simp at hnd
      have hk' : (s.setIfInBounds i true).getD k false = false := by rw [getD_set_ne false hik]; exact hkl
      simp [stageOf, List.takeWhile, hf, ht, hk']
    · have hmem : i ∈ k :: l := by simpa [hij] using h
      obtain ⟨h1, h2⟩ := stage_ready inv hi (k :: l) hc.2 (List.nodup_cons.1 hnd).2 hmem
      have hjl : s.getD j false = true := by
        by_cases hik : i = k
        · subst hik
          obtain ⟨o', ho', e, he, hb, hon⟩ := Region.waitsFor_spec hc.1
          have : o' = oi := Option.some.inj (ho'.symm.trans hoi)
          subst this
          rw [← hon]; exact hall e he hb
        · have hk : s.getD k false = true := by
            have hki : (k == i) = false := by simpa using Ne.symm hik
            have hidx : (k :: l).idxOf i = l.idxOf i + 1 := by rw [List.idxOf_cons]; simp [hki]
            rw [hidx] at h1
            cases hk : s.getD k false with
            | true => rfl
            | false => simp only [stageOf, List.takeWhile_cons, hk] at h1; simp at h1
          exact listed_of_waits inv hc.1 hk
      have hji : (j == i) = false := by simpa using Ne.symm hij
      have hjl' : (s.setIfInBounds i true).getD j false = true := by rw [getD_set_ne false hij]; exact hjl
      have hidx : (j :: k :: l).idxOf i = (k :: l).idxOf i + 1 := by rw [List.idxOf_cons]; simp [hji]
      refine ⟨?_, ?_⟩
      · rw [hidx, ← h1]; simp only [stageOf]; rw [List.takeWhile_cons, hjl]; simp
      · rw [hidx, ← h2]; simp only [stageOf]; rw [List.takeWhile_cons, hjl']; simp

theorem stage_other {s : Array Bool} {i : Nat} : ∀ (eff : List Nat), i ∉ eff → stageOf eff (s.setIfInBounds i true) = stageOf eff s
  | [], _ => rfl
  | j :: l, h => by
    have hij : i ≠ j := by rintro rfl; simp at h
    have ih := stage_other (s := s) (i := i) l (fun hh => h (List.mem_cons_of_mem _ hh))
    simp only [stageOf, List.takeWhile_cons] at ih ⊢
    rw [getD_set_ne false hij]
    cases s.getD j false with
    | true => simp only [if_true, List.length_cons]; rw [ih]
    | false => rfl

def cntOf (n : Nat) (s : Array Bool) : Nat := (List.range n).countP fun j => s.getD j false
theorem cnt_set {s : Array Bool} {i : Nat} (hi : s.getD i true = false) : ∀ n, cntOf n (s.setIfInBounds i true) = cntOf n s + if i < n then 1 else 0
  | 0 => rfl
  | n + 1 => by
    have hlt : i < s.size := by
      rcases Nat.lt_or_ge i s.size with h' | h'
      · exact h'
      · simp [h'] at hi
    have ih := cnt_set hi n
    unfold cntOf at ih ⊢
    rw [List.range_succ, List.countP_append, List.countP_append, ih]
    by_cases h : i = n
    · subst h
      have h1 : s.getD i false = false := getD_both hi
      have h2 : (s.setIfInBounds i true).getD i false = true := by simp [hlt]
      simp only [List.countP_cons, List.countP_nil, h1, h2]
      simp
    · have h2 : (s.setIfInBounds i true).getD n false = s.getD n false := getD_set_ne false h
      simp only [List.countP_cons, List.countP_nil, h2]
      by_cases h3 : i < n
      · have h4 : i < n + 1 := by omega
        simp only [h3, h4, if_true]; omega
      · have h4 : ¬ i < n + 1 := by omega
        simp only [h3, h4, if_false]; omega
theorem cnt_full {s : Array Bool} (h : cntOf n s = n) (j : Nat) (hj : j < n) : s.getD j false = true := by
  have := (List.countP_eq_length (p := fun j => s.getD j false) (l := List.range n)).1 (by rw [List.length_range]; exact h)
  exact this j (by simpa using hj)
theorem stage_full {s : Array Bool} (h : ∀ j, j < n → s.getD j false = true) : ∀ eff : List Nat, (∀ j ∈ eff, j < n) → stageOf eff s = eff.length
  | [], _ => rfl
  | j :: l, hl => by
    have ih := stage_full h l (fun k hk => hl k (List.mem_cons_of_mem _ hk))
    simp only [stageOf, List.takeWhile_cons, h j (hl j (List.mem_cons_self ..)), if_true, List.length_cons] at ih ⊢
    rw [ih]

def stageGoes (P : Program) (md : Region.Mode) (ops : Array Oper) (CC : Nat → World → Prop) (eff : List Nat) (n : Nat) (L : Array Bool → Act → Prop) : Nat → Array Bool → Act → Prop
  | 0, s, a => L s a
  | f + 1, s, a => Region.ready md ops s ≠ [] ∧ ∀ i ∈ Region.ready md ops s, i < n ∧ sOp P ops CC eff i (stageGoes P md ops CC eff n L f (s.setIfInBounds i true)) a

theorem wp_of_upTo {o : Oper} {a : Act} {K' : Act → World → Prop} {Q' : Exit → Act → World → Prop} {T : World → Prop} {w : World} {v : Value} (h : ∀ w', T w' → K' (a.put o.dst v) w') (hh : upTo P T v ((execOp a.eval o).run P w)) : o.wp P a w K' Q' := by
  unfold Oper.wp
  generalize (execOp a.eval o).run P w = r at *
  cases r with
  | ok x w' =>
    cases x <;> simp only [upTo] at hh <;> simp only [Oper.upon]
    case value u => obtain ⟨rfl, ht⟩ := hh; exact h _ ht
    case skip => obtain ⟨rfl, ht⟩ := hh; exact h _ ht
    case enter f args => exact hh.mono fun e w'' ⟨he, hw''⟩ => by subst he; exact h _ hw''
  | halt x w' => simp only [upTo] at hh

theorem upTo_of_quiet {C : World → Prop} {w : World} {v : Value} (hw : C w) {r : Result Next} (h : Oper.quietUpon P C w v r) : upTo P C v r := by
  cases r with
  | ok x w' =>
    cases x <;> simp only [Oper.quietUpon] at h <;> simp only [upTo]
    case value u => obtain ⟨rfl, rfl⟩ := h; exact ⟨rfl, hw⟩
    case skip => obtain ⟨rfl, rfl⟩ := h; exact ⟨rfl, hw⟩
    case enter f args => obtain ⟨rfl, hc⟩ := h; exact hc
  | halt x w' => simp only [Oper.quietUpon] at h

theorem any_of_stage {g : Nat} {L : Array Bool → Act → Prop} {Q : Exit → Act → World → Prop} (hch : chainOf md ops eff = true) (hnd : eff.Nodup)
    (hL : ∀ s a w, cntOf n s = n → CC (stageOf eff s) w → L s a → wpAny P md ops Q g s a w) (f : Nat) :
    ∀ (s : Array Bool) (a : Act) (w : World), cntOf n s + f = n → HeadInv md ops n s → CC (stageOf eff s) w → stageGoes P md ops CC eff n L f s a → wpAny P md ops Q (f + g) s a w := by
  induction f with
  | zero => intro s a w hcnt inv hw h; rw [Nat.zero_add]; exact hL s a w hcnt hw h
  | succ f ih =>
    intro s a w hcnt inv hw h
    rw [show f + 1 + g = (f + g) + 1 by omega]
    refine ⟨fun h0 => absurd h0 h.1, fun i hi => ?_⟩
    obtain ⟨hin, hop⟩ := h.2 i hi
    have inv' := inv.set hi hin
    have hcnt' : cntOf n (s.setIfInBounds i true) + f = n := by rw [cnt_set (mem_ready.1 hi).1, if_pos hin]; omega
    unfold sOp at hop
    unfold wpOp
    cases ho : ops[i]? with
    | none =>
      obtain ⟨_, oi, hoi, _⟩ := mem_ready.1 hi
      rw [ho] at hoi; cases hoi
    | some o =>
      simp only [ho] at hop ⊢
      by_cases hwt : Region.wanted o (yielded ops a.tmps) = true
      · simp only [hwt, if_true] at hop ⊢
        obtain ⟨v, hg, hk⟩ := hop
        left
        unfold goesTo at hg
        by_cases hie : i ∈ eff
        · simp only [hie, if_true] at hg
          obtain ⟨s1, s2⟩ := stage_ready inv hi eff hch hnd hie
          rw [s1] at hw
          exact wp_of_upTo (fun w' ht => ih _ _ w' hcnt' inv' (by rw [s2]; exact ht) hk) (hg ⟨w, hw⟩)
        · simp only [hie, if_false] at hg
          have s2 := stage_other (s := s) eff hie
          exact wp_of_upTo (fun w' ht => ih _ _ w' hcnt' inv' (by rw [s2]; exact ht) hk) (upTo_of_quiet hw (hg ⟨_, w, hw⟩))
      · simp only [hwt] at hop ⊢
        by_cases hie : i ∈ eff
        · obtain ⟨s1, s2⟩ := stage_ready inv hi eff hch hnd hie
          rw [s1] at hw
          exact ih _ _ w hcnt' inv' (by rw [s2]; exact hop.1 hie w hw) hop.2
        · exact ih _ _ w hcnt' inv' (by rw [stage_other eff hie]; exact hw) hop.2

theorem stage_take {i : Nat} {o : Oper} {v : Value} {L : Array Bool → Act → Prop} (hi : ops[i]? = some o) (hsel : ∀ (j : Nat) (o : Oper) cs b, ops[j]? = some o → o.op ≠ .select cs b)
    (hs : Region.sinkB md ops n = true) (hc : Region.chainB md ops n = true) (hn : n < ops.size) (hin : i < n)
    (hend : ∀ s a, L s a → ∀ j ∈ Region.ready md ops s, n ≤ j) (f : Nat) :
    ∀ (s : Array Bool) (a : Act), HeadInv md ops n s →
      (∀ j oj, ops[j]? = some oj → j ≠ i → s.getD j true = false → (∀ e ∈ oj.after, Region.binds md e = true → e.on ≠ i) → o.apart ops oj = true) →
      i ∈ Region.ready md ops s → comesTo P ops CC eff i o v a →
      stageGoes P md ops CC eff n L f (s.setIfInBounds i true) (a.put o.dst v) → stageGoes P md ops CC eff n L (f + 1) s a := by
  induction f with
  | zero =>
    intro s a inv _ hr hy H
    have hun := (mem_ready.1 hr).1
    refine ⟨List.ne_nil_of_mem hr, fun j hj => ?_⟩
    have hjn : j < n := Nat.lt_of_not_le fun h => tail_waits hs hc hn inv _ i rfl hin hun j h hj
    by_cases hji : j = i
    · subst hji; exact ⟨hjn, hy.sOp hi H⟩
    · exact absurd (hend _ _ H j (ready_mono hj hji)) (by omega)
  | succ f ih =>
    intro s a inv hfree hr hy H
    have hun := (mem_ready.1 hr).1
    refine ⟨List.ne_nil_of_mem hr, fun j hj => ?_⟩
    have hjn : j < n := Nat.lt_of_not_le fun h => tail_waits hs hc hn inv _ i rfl hin hun j h hj
    refine ⟨hjn, ?_⟩
    by_cases hji : j = i
    · subst hji; exact hy.sOp hi H
    · obtain ⟨hjun, oj, hoj, hall⟩ := mem_ready.1 hj
      have hnot : ∀ e ∈ oj.after, Region.binds md e = true → e.on ≠ i := fun e he hb heq => by
        have h1 := hall e he hb
        rw [heq, getD_both hun] at h1
        cases h1
      have h2 := sOp_put hoj (hfree j oj hoj hji hjun hnot) (fun cs b => hsel i o cs b hi) (fun cs b => hsel j oj cs b hoj) hy (H.2 j (ready_mono hj hji)).2
      refine sOp_mono (fun a' h3 => ih (s.setIfInBounds j true) a' (inv.set hj hjn) ?_ (ready_mono hr (Ne.symm hji)) h3.1 ?_) h2
      · intro k ok hk hki hkun hno
        refine hfree k ok hk hki ?_ hno
        by_cases hjk : j = k
        · subst hjk; exact hjun
        · rw [getD_set_ne true hjk] at hkun; exact hkun
      · rw [Array.setIfInBounds_comm _ _ hji]
        exact h3.2

/-- The walk, in the order of the text. -/
def wpStage (P : Program) (ops : Array Oper) (CC : Nat → World → Prop) (eff : List Nat) (Q : Act → Prop) : List Oper → Nat → Act → Prop
  | [], _, a => Q a
  | o :: l, i, a => if Region.wanted o (yielded ops a.tmps) then ∃ v, goesTo P CC eff i o a v ∧ wpStage P ops CC eff Q l (i + 1) (a.put o.dst v) else leftTo CC eff i ∧ wpStage P ops CC eff Q l (i + 1) (a.put o.dst undef)
theorem wpStage_nil {Q : Act → Prop} {a : Act} {i : Nat} (h : Q a) : wpStage P ops CC eff Q [] i a := h
/-- An operation that changes nothing. -/
theorem stage_pure {Q : Act → Prop} {a : Act} {o : Oper} {l : List Oper} {i : Nat} (hi : eff.contains i = false) (h : ∀ K : Act → Prop, (∀ a, wpStage P ops CC eff Q l (i + 1) a → K a) →
    if Region.wanted o (yielded ops a.tmps) then ∃ v, (∀ x : WSt CC, Oper.quietUpon P (CC x.k) x.w v ((execOp a.eval o).run P x.w)) ∧ K (a.put o.dst v) else K (a.put o.dst undef)) : wpStage P ops CC eff Q (o :: l) i a := by
  have hi' : i ∉ eff := by simpa using hi
  have h' := h _ (fun _ h => h)
  simp only [wpStage, goesTo, leftTo, hi', if_false, false_imp_iff, true_and]
  exact h'
/-- One that changes the world. -/
theorem stage_eff (p : Nat) {Q : Act → Prop} {a : Act} {o : Oper} {l : List Oper} {i : Nat} (hi : eff.contains i = true) (hp : eff.idxOf i = p) (hw : Region.wanted o (yielded ops a.tmps) = true) (v : Value)
    (h1 : ∀ x : WIn (CC p), upTo P (CC (p + 1)) v ((execOp a.eval o).run P x.w)) (h2 : wpStage P ops CC eff Q l (i + 1) (a.put o.dst v)) : wpStage P ops CC eff Q (o :: l) i a := by
  have hi' : i ∈ eff := by simpa using hi
  subst hp
  simp only [wpStage, goesTo, hi', if_true, hw]
  exact ⟨v, h1, h2⟩

theorem stage_text {g : Nat} {Lq : Act → Prop} (hsel : Region.noSelect ops = true) (hs : Region.sinkB md ops n = true) (hc : Region.chainB md ops n = true) (hn : n < ops.size) (l : List Oper) :
    ∀ (k : Nat) (s : Array Bool) (a : Act), (∀ j, j < l.length → l[j]? = ops[k + j]?) → k + l.length = n → HeadInv md ops n s →
    Region.lexHead md ops g l.length k s = true → wpStage P ops CC eff Lq l k a →
    stageGoes P md ops CC eff n (fun s' a' => Region.seqB md ops g n s' = true ∧ Lq a') l.length s a := by
  induction l with
  | nil =>
    intro k s a _ hk _ hB h
    obtain rfl : k = n := by simpa using hk
    exact ⟨by simpa [Region.lexHead] using hB, h⟩
  | cons o l ih =>
    intro k s a hl hk inv hB h
    have h0 : ops[k]? = some o := by simpa using (hl 0 (by simp)).symm
    simp only [List.length_cons, Region.lexHead, Bool.and_eq_true] at hB
    obtain ⟨⟨hr, hf⟩, hB'⟩ := hB
    have hkn : k < n := by simp only [List.length_cons] at hk; omega
    have hr' : k ∈ Region.ready md ops s := by simpa using hr
    have hst : sOp P ops CC eff k (wpStage P ops CC eff Lq l (k + 1)) a := by unfold sOp; simp only [h0]; exact h
    obtain ⟨v, hy, hK⟩ := comesTo_of_sOp h0 hst
    refine stage_take h0 (Region.noSelect_spec hsel) hs hc hn hkn (fun s' a' hL => seqB_ready hL.1) l.length s a inv (Region.free_spec h0 hf) hr' hy (ih (k + 1) _ _ (fun j hj => ?_) ?_ (inv.set hr' hkn) hB' hK)
    · have := hl (j + 1) (by simp; omega)
      simpa [Nat.add_assoc, Nat.add_comm 1 j] using this
    · simp only [List.length_cons] at hk; omega

/-- The effects' list fits: each waits for the one ahead, all lie in the head. -/
def effB (md : Region.Mode) (ops : Array Oper) (eff : List Nat) (n : Nat) : Bool := chainOf md ops eff && decide eff.Nodup && eff.all fun j => decide (j < n)

/-- **The head, staged; then the tail from every world of the last stage.** -/
theorem wp_region_stage (CC : Nat → World → Prop) (eff : List Nat) (n : Nat) {id : Nat} {Q : Exit → Act → World → Prop} {a : Act} {w : World} {l : List Oper} (hm : P.follows .mixedOrders = true) (hB : Region.lexTailB .any l.toArray n = true) (hE : effB .any l.toArray eff n = true) (hC : CC 0 w.drew)
    (h : wpStage P l.toArray CC eff (fun a' => ∀ x : WIn (CC eff.length), wpList P l.toArray Q (l.drop n) a' x.w) (l.take n) 0 a) : (Code.region id l.toArray true).wp P Q a w := by
  simp only [effB, Bool.and_eq_true, decide_eq_true_eq, List.all_eq_true] at hE
  obtain ⟨⟨hch, hnd⟩, hin⟩ := hE
  simp only [Region.lexTailB, Bool.and_eq_true, decide_eq_true_eq] at hB
  obtain ⟨⟨⟨⟨hsel, hn⟩, hs⟩, hc⟩, hlex⟩ := hB
  have hn' : n < l.length := by simpa using hn
  have htl : (l.take n).length = n := by simp; omega
  have hdl : (l.drop n).length = l.toArray.size - n := by simp
  have inv0 : HeadInv .any l.toArray n (Array.replicate l.toArray.size false) :=
    ⟨by simp, fun j oj _ hl => (by rw [getD_replicate_false] at hl; cases hl), fun t _ ht => getD_in (by simpa using ht) (getD_replicate_false _ _)⟩
  have H := stage_text (CC := CC) (eff := eff) (md := .any) (g := l.toArray.size - n) hsel hs hc hn (l.take n) 0 _ a (fun j hj => by
    have hj' : j < n := by rw [htl] at hj; exact hj
    simp [hj']) (by simpa using htl) inv0 (by rw [htl]; exact hlex) h
  have hcnt0 : cntOf n (Array.replicate l.toArray.size false) = 0 := by
    unfold cntOf
    rw [List.countP_eq_zero]
    intro j _
    rw [getD_replicate_false]; simp
  have hst0 : stageOf eff (Array.replicate l.toArray.size false) = 0 := by
    cases eff with
    | nil => rfl
    | cons j t => simp only [stageOf, List.takeWhile_cons, getD_replicate_false]; rfl
  refine wp_region_any hm ?_
  have := any_of_stage (Q := Q) (g := l.toArray.size - n) hch hnd (fun s a' w' hcnt hw' hL => by
    have hfull := stage_full (cnt_full hcnt) eff (fun j hj => hin j hj)
    rw [hfull] at hw'
    have := wpAny_of_seq (md := .any) (Q' := Q) (l.drop n) n s a' w' (fun j => by simp [List.getElem?_drop]) (by rw [hdl]; exact hL.1) (hL.2 ⟨w', hw'⟩)
    rwa [hdl] at this) _ _ _ _ (by rw [hcnt0, htl]; omega) inv0 (by rw [hst0]; exact hC) H
  rw [htl, show n + (l.toArray.size - n) = l.toArray.size by omega] at this
  exact this

/-- 'wpStage', closed to unfolding. -/
@[irreducible] def wpS (P : Program) (ops : Array Oper) (CC : Nat → World → Prop) (eff : List Nat) (Q : Act → Prop) (l : List Oper) (i : Nat) (a : Act) : Prop := wpStage P ops CC eff Q l i a
theorem wpS_of {Q : Act → Prop} {l : List Oper} {a : Act} {i : Nat} (h : wpS P ops CC eff Q l i a) : wpStage P ops CC eff Q l i a := by unfold wpS at h; exact h
theorem wpS_nil {Q : Act → Prop} {a : Act} {i : Nat} (h : Q a) : wpS P ops CC eff Q [] i a := by unfold wpS; exact wpStage_nil h
theorem wpS_pure {Q : Act → Prop} {a : Act} {o : Oper} {l : List Oper} {i : Nat} (hi : eff.contains i = false) (h : ∀ K : Act → Prop, (∀ a, wpS P ops CC eff Q l (i + 1) a → K a) →
    if Region.wanted o (yielded ops a.tmps) then ∃ v, (∀ x : WSt CC, Oper.quietUpon P (CC x.k) x.w v ((execOp a.eval o).run P x.w)) ∧ K (a.put o.dst v) else K (a.put o.dst undef)) : wpS P ops CC eff Q (o :: l) i a := by
  unfold wpS at *
  exact stage_pure hi h
theorem wpS_eff (p : Nat) {Q : Act → Prop} {a : Act} {o : Oper} {l : List Oper} {i : Nat} (hi : eff.contains i = true) (hp : eff.idxOf i = p) (hw : Region.wanted o (yielded ops a.tmps) = true) (v : Value)
    (h1 : ∀ x : WIn (CC p), upTo P (CC (p + 1)) v ((execOp a.eval o).run P x.w)) (h2 : wpS P ops CC eff Q l (i + 1) (a.put o.dst v)) : wpS P ops CC eff Q (o :: l) i a := by
  unfold wpS at *
  exact stage_eff p hi hp hw v h1 h2
theorem wp_region_stage2 (CC : Nat → World → Prop) (eff : List Nat) (n : Nat) {id : Nat} {Q : Exit → Act → World → Prop} {a : Act} {w : World} {l : List Oper} (hm : P.follows .mixedOrders = true) (hB : Region.lexTailB .any l.toArray n = true) (hE : effB .any l.toArray eff n = true) (hC : CC 0 w.drew)
    (h : wpS P l.toArray CC eff (fun a' => ∀ x : WIn (CC eff.length), wpList P l.toArray Q (l.drop n) a' x.w) (l.take n) 0 a) : (Code.region id l.toArray true).wp P Q a w :=
  wp_region_stage CC eff n hm hB hE hC (wpS_of h)
end
end Go.Proofs.Ytkicnjbidbfajaa
