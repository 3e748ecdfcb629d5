/- A slice of the program's own, at whatever offset of its block: what it reads as; appending to it, reading it, cutting off its head. Over any program. -/
import Derived.Test.YtkicnjbidbfajaaCommon
import Derived.ArgAppend
namespace Go.Proofs.Ytkicnjbidbfajaa
open Go.ChangeShapes Go.WideShapes Go.ChangeAt Go.RowKit Go.Deep
set_option linter.unusedVariables false
set_option linter.unusedSimpArgs false
def putRow (cs : Array Value) : Nat → List Value → Array Value
  | _, [] => cs
  | o, u :: r => putRow (cs.setIfInBounds o u) (o + 1) r
theorem size_putRow : ∀ (l : List Value) (o : Nat) (cs : Array Value), (putRow cs o l).size = cs.size
  | [], _, _ => rfl
  | u :: r, o, cs => by rw [putRow, size_putRow r]; simp
theorem putRow_out : ∀ (l : List Value) (o k : Nat) (cs : Array Value), (k < o ∨ o + l.length ≤ k) → (putRow cs o l)[k]? = cs[k]?
  | [], _, _, _, _ => rfl
  | u :: r, o, k, cs, h => by
    rw [putRow, putRow_out r (o + 1) k _ (by simp at h; omega), Array.getElem?_setIfInBounds_ne (by simp at h; omega)]
theorem putRow_in : ∀ (l : List Value) (o j : Nat) (cs : Array Value), o + l.length ≤ cs.size → j < l.length → (putRow cs o l)[o + j]? = l[j]?
  | [], _, j, _, _, h => by simp at h
  | u :: r, o, 0, cs, hs, _ => by
    show (putRow (cs.setIfInBounds o u) (o + 1) r)[o]? = some u
    rw [putRow_out r (o + 1) o _ (by omega)]
    simp at hs
    rw [Array.getElem?_setIfInBounds]
    simp; omega
  | u :: r, o, j + 1, cs, hs, h => by
    have := putRow_in r (o + 1) j (cs.setIfInBounds o u) (by simp at hs ⊢; omega) (by simpa using h)
    rw [putRow, show o + (j + 1) = o + 1 + j by omega, this]; rfl
theorem heap_setCells {g : Nat} {e : TypeId} : ∀ (l : List Value) (o : Nat) (w : World) (cs : Array Value), w.heap[g]? = some (.cells cs e (0, 0)) → (w.setCells g o l).heap[g]? = some (.cells (putRow cs o l) e (0, 0))
  | [], _, _, _, h => h
  | u :: r, o, w, cs, h => by
    rw [World.setCells, putRow]
    exact heap_setCells r (o + 1) _ _ (block_set h o u)
theorem keeps_setCells {S : Nat → Prop} {g : Nat} (hg : S g) : ∀ (l : List Value) (o : Nat) (a w : World), Keeps S a w → Keeps S a (w.setCells g o l)
  | [], _, _, _, h => h
  | u :: r, o, a, w, h => keeps_setCells hg r (o + 1) a _ (h.setCell (p := ⟨g, o, none⟩) hg u)

/-- The slice v has n elements of type e ('size' cells each), the cells xs; where it has room its block is known to be there, and not frozen. -/
def Sl (w : World) (e : TypeId) (size : Nat) (v : Value) (n : Nat) (xs : List Value) : Prop :=
  xs.length = n * size ∧
  ((∃ A, v = .slice A 0 0 ∧ n = 0) ∨
   ∃ g off cap cs, v = .slice (some ⟨g, off, none⟩) n cap ∧ w.heap[g]? = some (.cells cs e (0, 0)) ∧ n ≤ cap ∧ 0 < cap ∧ cap ≤ maxLen ∧ off + cap * size ≤ cs.size ∧ ∀ j u, xs[j]? = some u → cs[off + j]? = some u)

theorem Sl.nil (w : World) (e size : Nat) (A : Option Addr) : Sl w e size (.slice A 0 0) 0 [] := ⟨by simp, .inl ⟨A, rfl, rfl⟩⟩
theorem Sl.keep {w w' : World} {e size n : Nat} {v : Value} {xs : List Value} (h : Sl w e size v n xs) (hk : ∀ g, v.ownBlock = some g → g < w.heap.size → w'.heap[g]? = w.heap[g]?) : Sl w' e size v n xs := by
  refine ⟨h.1, ?_⟩
  rcases h.2 with h0 | ⟨g, off, cap, cs, rfl, hh, r⟩
  · exact .inl h0
  · exact .inr ⟨g, off, cap, cs, rfl, (hk g rfl (lt_of_block hh)).trans hh, r⟩
theorem Sl.below {w w' : World} {e size n : Nat} {v : Value} {xs : List Value} (h : Sl w e size v n xs) (hb : Below w.heap.size w w') : Sl w' e size v n xs := h.keep fun g _ hg => hb.block g hg
theorem Sl.drewN {w : World} {e size n : Nat} {v : Value} {xs : List Value} (h : Sl w e size v n xs) (k : Nat) : Sl (w.drewN k) e size v n xs := h
theorem Sl.alloc {w : World} {e size n : Nat} {v : Value} {xs : List Value} (h : Sl w e size v n xs) (o : Obj) : Sl (w.alloc o) e size v n xs := h.keep fun g _ hg => Below.heap_alloc w o g hg
theorem Sl.keeps {S : Nat → Prop} {w w' : World} {e size n : Nat} {v : Value} {xs : List Value} (h : Sl w e size v n xs) (hk : Keeps S w w') (hs : ∀ g, v.ownBlock = some g → ¬ S g) : Sl w' e size v n xs := h.keep fun g hg hlt => hk.block g hlt (hs g hg)
theorem Sl.form {w : World} {e size n : Nat} {v : Value} {xs : List Value} (h : Sl w e size v n xs) : ∃ A cap, v = .slice A n cap ∧ n ≤ cap ∧ cap ≤ maxLen := by
  rcases h.2 with ⟨A, rfl, rfl⟩ | ⟨g, off, cap, cs, rfl, _, h1, _, h2, _⟩
  · exact ⟨A, 0, rfl, Nat.le_refl _, by unfold maxLen; omega⟩
  · exact ⟨_, cap, rfl, h1, h2⟩
/-- Where it has an element: its block, and its cells. -/
theorem Sl.at_ {w : World} {e size n : Nat} {v : Value} {xs : List Value} (h : Sl w e size v n xs) (hn : 0 < n) : ∃ g off cap, v = .slice (some ⟨g, off, none⟩) n cap ∧ n ≤ cap ∧ cap ≤ maxLen ∧ g < w.heap.size ∧ (∀ j u, xs[j]? = some u → w.cell? ⟨g, off + j, none⟩ = some u) ∧ ∀ j, w.frozen? ⟨g, j, none⟩ = false := by
  rcases h.2 with ⟨A, rfl, rfl⟩ | ⟨g, off, cap, cs, rfl, hh, h1, _, h2, _, hc⟩
  · omega
  · exact ⟨g, off, cap, rfl, h1, h2, lt_of_block hh, fun j u hu => by rw [cells_of hh]; exact hc j u hu, fun j => free_of hh j⟩
/-- s[k:]. -/
theorem Sl.cut {w : World} {e size n cap : Nat} {A : Option Addr} {xs : List Value} (h : Sl w e size (.slice A n cap) n xs) (k : Nat) (hk : k ≤ n) :
    Sl w e size (.slice (if cap = k then A else A.map (·.add (k * size))) (n - k) (cap - k)) (n - k) (xs.drop (k * size)) := by
  refine ⟨by rw [List.length_drop, h.1, Nat.sub_mul], ?_⟩
  rcases h.2 with ⟨A', hv, rfl⟩ | ⟨g, off, cap', cs, hv, hh, h1, h0, h2, h3, hc⟩
  · simp at hv
    obtain ⟨rfl, rfl⟩ := hv
    obtain rfl : k = 0 := by omega
    exact .inl ⟨_, rfl, rfl⟩
  · simp at hv
    obtain ⟨rfl, rfl⟩ := hv
    by_cases hck : cap = k
    · subst hck
      obtain rfl : n = cap := by omega
      exact .inl ⟨some ⟨g, off, none⟩, by simp, by omega⟩
    · refine .inr ⟨g, off + k * size, cap - k, cs, by simp [hck, add_none], hh, by omega, by omega, by omega, ?_, fun j u hu => ?_⟩
      · have : k * size + (cap - k) * size = cap * size := by rw [← Nat.add_mul]; congr 1; omega
        omega
      · rw [List.getElem?_drop] at hu
        rw [Nat.add_assoc]; exact hc _ u hu
theorem Sl.of_own {w : World} {base e size n : Nat} {v : Value} {xs : List Value} (h : w.ownsRow base e size v n xs) (hn : 0 < n) : Sl w e size v n xs ∧ ∃ g, v.ownBlock = some g ∧ base ≤ g := by
  obtain ⟨hl, h2⟩ := h
  rcases h2 with ⟨rfl, rfl⟩ | ⟨g, cap, cur, rfl, hb, hh, h1, h3, h4, h5⟩
  · omega
  · refine ⟨⟨hl, .inr ⟨g, 0, cap, cur, rfl, hh, h1, by omega, h3, by omega, fun j u hu => ?_⟩⟩, g, rfl, hb⟩
    rw [Nat.zero_add]
    have hj : j < n * size := by rw [← hl]; exact (List.getElem?_eq_some_iff.1 hu).1
    rw [← h5, List.getElem?_take, if_pos hj] at hu
    simpa using hu

/-- append(v, news...): the news lie anywhere. -/
theorem run_append_sl {P : Program} (w : World) (t ty e : TypeId) (i : TypeInfo) (z : Value) (size bytes : Nat) (ht : P.underlying t = some (.slice e)) (hi : P.info? e = some i) (hz : i.zero = some z)
    (hsize : i.size = size) (hby : i.bytes = bytes) (hzs : z.cells.size = size) (hsz : 0 < size)
    (v : Value) (n : Nat) (xs : List Value) (hown : Sl w e size v n xs)
    (a : Addr) (m c : Nat) (news : List Value) (hl : news.length = m * size) (hnews : ∀ j u, news[j]? = some u → w.cell? (a.add j) = some u) (h1 : ∀ u ∈ news, u.oneCell' = true) (hm : 0 < m)
    (h63 : n + m ≤ maxLen) (hbytes : (n + m) * bytes ≤ 140737488355328) :
    ∃ v' w', (Builtin.append_ #[t, t] ty #[v, .slice (some a) m c]).run P w = .ok v' w' ∧ Sl w' e size v' (n + m) (xs ++ news) ∧ Keeps (fun k => v.ownBlock = some k) w w' ∧ (v'.ownBlock = v.ownBlock ∨ ∃ g, v'.ownBlock = some g ∧ w.heap.size ≤ g) := by
  have grown : ∀ v' w', w'.ownsRow w.heap.size e size v' (n + m) (xs ++ news) → w.grownBy w' none → Sl w' e size v' (n + m) (xs ++ news) ∧ Keeps (fun k => v.ownBlock = some k) w w' ∧ (v'.ownBlock = v.ownBlock ∨ ∃ g, v'.ownBlock = some g ∧ w.heap.size ≤ g) := fun v' w' ho hg => by
    obtain ⟨hS, g, hg1, hg2⟩ := Sl.of_own ho (by omega)
    exact ⟨hS, ⟨hg.os, hg.tape, hg.output, hg.size, fun k hk _ => hg.block k hk (by simp)⟩, .inr ⟨g, hg1, hg2⟩⟩
  rcases hown.2 with ⟨A, rfl, rfl⟩ | ⟨g, off, cap, cs, rfl, hh, hnc, hc0, hcm, hcs, hat⟩
  · obtain rfl : xs = [] := List.eq_nil_of_length_eq_zero (by simpa using hown.1)
    cases A with
    | none =>
      obtain ⟨v', w', hr, h2, h3, _⟩ := run_append_own (P := P) w w.heap.size t ty e i z size bytes ht hi hz hsize hby hzs hsz (.slice none 0 0) 0 [] (World.ownsRow_nil w _ e size) a m c news hl hnews h1 h63 hbytes (Nat.le_refl _)
      exact ⟨v', w', hr, grown v' w' h2 h3⟩
    | some b =>
      obtain ⟨v', w', hr, h2, h3⟩ := run_append_arg_grows (P := P) w t ty e i z size bytes ht hi hz hsize hby hzs hsz b 0 0 [] (by simp) (by simp) a m c news hl hnews (by omega) h63 hbytes
      exact ⟨v', w', hr, grown v' w' h2 h3⟩
  · have hol : ∀ j u, xs[j]? = some u → w.cell? ⟨g, off + j, none⟩ = some u := fun j u hu => by rw [cells_of hh]; exact hat j u hu
    by_cases hroom : n + m ≤ cap
    · subst hsize
      have hfit : off + n * i.size + news.length ≤ cs.size := by
        have : (n + m) * i.size ≤ cap * i.size := Nat.mul_le_mul_right _ hroom
        rw [hl]
        rw [Nat.add_mul] at this
        omega
      have hr := run_append_room_cells (P := P) w t ty e i ht hi g off n cap a m c news hl hnews h1 hroom (fun j hj => by
        rw [cells_of hh]; simp [show off + n * i.size + j < cs.size by omega]) (fun j hj => free_of hh _)
      refine ⟨_, _, hr, ⟨by rw [List.length_append, hown.1, hl, Nat.add_mul], .inr ⟨g, off, cap, putRow cs (off + n * i.size) news, rfl, heap_setCells news _ w cs hh, hroom, hc0, hcm, by rw [size_putRow]; exact hcs, fun j u hu => ?_⟩⟩, keeps_setCells (S := fun k => (Value.slice (some ⟨g, off, none⟩) n cap).ownBlock = some k) rfl news _ w w (Keeps.refl _ _), .inl rfl⟩
      by_cases hj : j < xs.length
      · rw [List.getElem?_append_left hj] at hu
        rw [putRow_out news _ _ _ (.inl (by rw [hown.1] at hj; omega))]
        exact hat j u hu
      · rw [List.getElem?_append_right (by omega)] at hu
        have hj2 := (List.getElem?_eq_some_iff.1 hu).1
        rw [show off + j = off + n * i.size + (j - xs.length) by rw [hown.1] at *; omega, putRow_in news _ _ _ hfit hj2]
        exact hu
    · obtain ⟨v', w', hr, h2, h3⟩ := run_append_arg_grows (P := P) w t ty e i z size bytes ht hi hz hsize hby hzs hsz ⟨g, off, none⟩ n cap xs hown.1 (fun j u hu => by rw [Addr.add_lit]; exact hol j u hu) a m c news hl hnews (by omega) h63 hbytes
      exact ⟨v', w', hr, grown v' w' h2 h3⟩

/-- .. for the walk. -/
theorem wpList_append_sl {P : Program} {w : World} {ops : Array Oper} {rest : List Oper} {o : Oper} {a : Act} {Q : Exit → Act → World → Prop} (hgd : o.guard = none) (s x : Operand) (t : TypeId)
    (hop : o.op = .call { callee := .builtin .append, args := #[s, x], argTypes := #[t, t] })
    (e : TypeId) (i : TypeInfo) (z : Value) (size bytes : Nat) (ht : P.underlying t = some (.slice e)) (hi : P.info? e = some i) (hz : i.zero = some z)
    (hsize : i.size = size) (hby : i.bytes = bytes) (hzs : z.cells.size = size) (hsz : 0 < size)
    (v : Value) (n : Nat) (xs : List Value) (hs : a.eval s = v) (hown : Sl w e size v n xs)
    (ad : Addr) (m c : Nat) (news : List Value) (hx : a.eval x = .slice (some ad) m c) (hl : news.length = m * size) (hnews : ∀ j u, news[j]? = some u → w.cell? (ad.add j) = some u) (h1 : ∀ u ∈ news, u.oneCell' = true) (hm : 0 < m)
    (h63 : n + m ≤ maxLen) (hbytes : (n + m) * bytes ≤ 140737488355328)
    (h : ∀ v' w', Sl w' e size v' (n + m) (xs ++ news) → Keeps (fun k => v.ownBlock = some k) w w' → (v'.ownBlock = v.ownBlock ∨ ∃ g, v'.ownBlock = some g ∧ w.heap.size ≤ g) → wpList P ops Q rest (a.put o.dst v') w') : wpList P ops Q (o :: rest) a w := by
  refine wpList_plain hgd fun K hK => ?_
  obtain ⟨v', w', hr, h2, h3, h4⟩ := run_append_sl (P := P) w t o.type e i z size bytes ht hi hz hsize hby hzs hsz v n xs hown ad m c news hl hnews h1 hm h63 hbytes
  unfold Oper.wp
  simp [execOp, hop, resolve, invoke, builtin, hs, hx, hr, Result.andThen]
  exact hK _ _ (h v' w' h2 h3 h4)
theorem Sl.drew {w : World} {e size n : Nat} {v : Value} {xs : List Value} (h : Sl w e size v n xs) : Sl w.drew e size v n xs := h
theorem wp_append_sl {P : Program} {w : World} {o : Oper} {a : Act} {K : Act → World → Prop} {Q : Exit → Act → World → Prop} (s x : Operand) (t : TypeId)
    (hop : o.op = .call { callee := .builtin .append, args := #[s, x], argTypes := #[t, t] })
    (e : TypeId) (i : TypeInfo) (z : Value) (size bytes : Nat) (ht : P.underlying t = some (.slice e)) (hi : P.info? e = some i) (hz : i.zero = some z)
    (hsize : i.size = size) (hby : i.bytes = bytes) (hzs : z.cells.size = size) (hsz : 0 < size)
    (v : Value) (n : Nat) (xs : List Value) (hs : a.eval s = v) (hown : Sl w e size v n xs)
    (ad : Addr) (m c : Nat) (news : List Value) (hx : a.eval x = .slice (some ad) m c) (hl : news.length = m * size) (hnews : ∀ j u, news[j]? = some u → w.cell? (ad.add j) = some u) (h1 : ∀ u ∈ news, u.oneCell' = true) (hm : 0 < m)
    (h63 : n + m ≤ maxLen) (hbytes : (n + m) * bytes ≤ 140737488355328)
    (h : ∀ v' w', Sl w' e size v' (n + m) (xs ++ news) → Keeps (fun k => v.ownBlock = some k) w w' → (v'.ownBlock = v.ownBlock ∨ ∃ g, v'.ownBlock = some g ∧ w.heap.size ≤ g) → K (a.put o.dst v') w') : o.wp P a w K Q := by
  obtain ⟨v', w', hr, h2, h3, h4⟩ := run_append_sl (P := P) w t o.type e i z size bytes ht hi hz hsize hby hzs hsz v n xs hown ad m c news hl hnews h1 hm h63 hbytes
  unfold Oper.wp
  simp [execOp, hop, resolve, invoke, builtin, hs, hx, hr, Result.andThen]
  exact h v' w' h2 h3 h4
/-- .. at a step of a region that draws its order. -/
theorem step_append_sl {P : Program} {w : World} {ops : Array Oper} {o : Oper} {a : Act} {K : Act → World → Prop} {Q : Exit → Act → World → Prop} {E : Prop} (hgd : o.guard = none) (s x : Operand) (t : TypeId)
    (hop : o.op = .call { callee := .builtin .append, args := #[s, x], argTypes := #[t, t] })
    (e : TypeId) (i : TypeInfo) (z : Value) (size bytes : Nat) (ht : P.underlying t = some (.slice e)) (hi : P.info? e = some i) (hz : i.zero = some z)
    (hsize : i.size = size) (hby : i.bytes = bytes) (hzs : z.cells.size = size) (hsz : 0 < size)
    (v : Value) (n : Nat) (xs : List Value) (hs : a.eval s = v) (hown : Sl w e size v n xs)
    (ad : Addr) (m c : Nat) (news : List Value) (hx : a.eval x = .slice (some ad) m c) (hl : news.length = m * size) (hnews : ∀ j u, news[j]? = some u → w.cell? (ad.add j) = some u) (h1 : ∀ u ∈ news, u.oneCell' = true) (hm : 0 < m)
    (h63 : n + m ≤ maxLen) (hbytes : (n + m) * bytes ≤ 140737488355328)
    (h : ∀ v' w', Sl w' e size v' (n + m) (xs ++ news) → Keeps (fun k => v.ownBlock = some k) w w' → (v'.ownBlock = v.ownBlock ∨ ∃ g, v'.ownBlock = some g ∧ w.heap.size ≤ g) → K (a.put o.dst v') w') :
    if Region.wanted o (yielded ops a.tmps) = true then Oper.wp P o a w K Q else E := by
  have hw : Region.wanted o (yielded ops a.tmps) = true := by simp [Region.wanted, hgd]
  rw [if_pos hw]
  exact wp_append_sl s x t hop e i z size bytes ht hi hz hsize hby hzs hsz v n xs hs hown ad m c news hx hl hnews h1 hm h63 hbytes h
theorem Keeps.trans' {S T : Nat → Prop} {a b c : World} (h : Keeps S a b) (k : Keeps T b c) (hST : ∀ x, x < a.heap.size → T x → S x) : Keeps S a c :=
  ⟨k.os.trans h.os, k.tape.trans h.tape, k.output.trans h.output, Nat.le_trans h.size k.size, fun i hi hs => (k.block i (Nat.lt_of_lt_of_le hi h.size) (fun ht => hs (hST i hi ht))).trans (h.block i hi hs)⟩
end Go.Proofs.Ytkicnjbidbfajaa
