/- The laws' arguments: a config, a load; what play.Config and load hand back, some that may be. -/
import Derived.Test.YtolmkafmlblnoaaBoundI
import Derived.Test.YtolmkafmlblnoaaArgs
namespace Go.Proofs.Ytolmkafmlblnoaa
open Go.ChangeShapes Go.WideShapes Go.ChangeAt Go.RowKit
set_option linter.unusedVariables false
set_option linter.unusedSimpArgs false
section
variable {H : Type} {enc : TypeId × Value → H} {w : World} {base : Nat} {spare : Nat → Bool} {held : Bool}
theorem arr10 {cs : Array Value} {a b c d e f g h i j : Value} (hs : cs.size = 10) (h0 : cs[0]? = some a) (h1 : cs[1]? = some b) (h2 : cs[2]? = some c) (h3 : cs[3]? = some d) (h4 : cs[4]? = some e) (h5 : cs[5]? = some f) (h6 : cs[6]? = some g) (h7 : cs[7]? = some h) (h8 : cs[8]? = some i) (h9 : cs[9]? = some j) : cs = #[a, b, c, d, e, f, g, h, i, j] := by
  refine Array.ext_getElem? fun k => ?_
  rcases k with _ | _ | _ | _ | _ | _ | _ | _ | _ | _ | k <;> first | assumption | (rw [Array.getElem?_eq_none (by omega), Array.getElem?_eq_none (by simp)])
theorem arr7 {cs : Array Value} {a b c d e f g : Value} (hs : cs.size = 7) (h0 : cs[0]? = some a) (h1 : cs[1]? = some b) (h2 : cs[2]? = some c) (h3 : cs[3]? = some d) (h4 : cs[4]? = some e) (h5 : cs[5]? = some f) (h6 : cs[6]? = some g) : cs = #[a, b, c, d, e, f, g] := by
  refine Array.ext_getElem? fun k => ?_
  rcases k with _ | _ | _ | _ | _ | _ | _ | k <;> first | assumption | (rw [Array.getElem?_eq_none (by omega), Array.getElem?_eq_none (by simp)])
theorem open_conf {r : Reach} {b0 : Nat} {v : Value} {d : DataW H} {p : List MemPlace} (hv : Value.okWide Try.prog w r b0 23 v) (h : DataW.Trod enc Try.prog w base spare held 23 v d p) :
    ∃ a b c d e f g h i j : Int, v = confV a b c d e f g h i j := by
  obtain ⟨cs, rfl, hsz, hf⟩ := open_agg_any Try.underlying23 (by kernel_rfl) (by kernel_rfl) hv h
  obtain ⟨u0, y0, n0, e0, t0⟩ := hf 0 _ rfl
  obtain ⟨u1, y1, n1, e1, t1⟩ := hf 1 _ rfl
  obtain ⟨u2, y2, n2, e2, t2⟩ := hf 2 _ rfl
  obtain ⟨u3, y3, n3, e3, t3⟩ := hf 3 _ rfl
  obtain ⟨u4, y4, n4, e4, t4⟩ := hf 4 _ rfl
  obtain ⟨u5, y5, n5, e5, t5⟩ := hf 5 _ rfl
  obtain ⟨u6, y6, n6, e6, t6⟩ := hf 6 _ rfl
  obtain ⟨u7, y7, n7, e7, t7⟩ := hf 7 _ rfl
  obtain ⟨u8, y8, n8, e8, t8⟩ := hf 8 _ rfl
  obtain ⟨u9, y9, n9, e9, t9⟩ := hf 9 _ rfl
  obtain ⟨x0, rfl, _⟩ := trod_i64 Try.underlying3 t0
  obtain ⟨x1, rfl, _⟩ := trod_i64 Try.underlying3 t1
  obtain ⟨x2, rfl, _⟩ := trod_i64 Try.underlying3 t2
  obtain ⟨x3, rfl, _⟩ := trod_i64 Try.underlying3 t3
  obtain ⟨x4, rfl, _⟩ := trod_i64 Try.underlying3 t4
  obtain ⟨x5, rfl, _⟩ := trod_i64 Try.underlying3 t5
  obtain ⟨x6, rfl, _⟩ := trod_i64 Try.underlying2 t6
  obtain ⟨x7, rfl, _⟩ := trod_i64 Try.underlying2 t7
  obtain ⟨x8, rfl, _⟩ := trod_i64 Try.underlying2 t8
  obtain ⟨x9, rfl, _⟩ := trod_i64 Try.underlying2 t9
  exact ⟨x0, x1, x2, x3, x4, x5, x6, x7, x8, x9, by rw [arr10 hsz e0 e1 e2 e3 e4 e5 e6 e7 e8 e9]; rfl⟩
theorem open_load {r : Reach} {b0 : Nat} {v : Value} {d : DataW H} {p : List MemPlace} (hv : Value.okWide Try.prog w r b0 25 v) (h : DataW.Trod enc Try.prog w base spare held 25 v d p) :
    ∃ (u r q : Int) (t : Bool) (c f wt : Int), v = loadV u r q t c f wt := by
  obtain ⟨cs, rfl, hsz, hf⟩ := open_agg_any Try.underlying25 (by kernel_rfl) (by kernel_rfl) hv h
  obtain ⟨u0, y0, n0, e0, t0⟩ := hf 0 _ rfl
  obtain ⟨u1, y1, n1, e1, t1⟩ := hf 1 _ rfl
  obtain ⟨u2, y2, n2, e2, t2⟩ := hf 2 _ rfl
  obtain ⟨u3, y3, n3, e3, t3⟩ := hf 3 _ rfl
  obtain ⟨u4, y4, n4, e4, t4⟩ := hf 4 _ rfl
  obtain ⟨u5, y5, n5, e5, t5⟩ := hf 5 _ rfl
  obtain ⟨u6, y6, n6, e6, t6⟩ := hf 6 _ rfl
  obtain ⟨x0, rfl, _⟩ := trod_i64 Try.underlying3 t0
  obtain ⟨x1, rfl, _⟩ := trod_i64 Try.underlying3 t1
  obtain ⟨x2, rfl, _⟩ := trod_i64 Try.underlying3 t2
  obtain ⟨x3, rfl⟩ := trod_b Try.underlying4 t3
  obtain ⟨x4, rfl, _⟩ := trod_i64 Try.underlying3 t4
  obtain ⟨x5, rfl, _⟩ := trod_i64 Try.underlying3 t5
  obtain ⟨x6, rfl, _⟩ := trod_i64 Try.underlying2 t6
  exact ⟨x0, x1, x2, x3, x4, x5, x6, by rw [arr7 hsz e0 e1 e2 e3 e4 e5 e6]; rfl⟩
end
def CfgPost (w : World) (e : Ending) (w' : World) : Prop := ∃ a b c d e' f g h i j : Int, mayC a b c d e' f g h i j = true ∧ e = .returned (confV a b c d e' f g h i j) ∧ Below w.heap.size w w'
theorem config_ex (a b c d e f g h i j : Int) (w : World) : Calls Try.prog 6 #[.agg #[.int .i64 a, .int .i64 b, .int .i64 c, .int .i64 d, .int .i64 e, .int .i64 f, .int .i64 g, .int .i64 h, .int .i64 i, .int .i64 j]] w (CfgPost w) :=
  (config_any a b c d e f g h i j w).mono fun _ _ ⟨he, hb⟩ => ⟨_, _, _, _, _, _, _, _, _, _, cfgS_may a b c d e f g h i j, he, hb⟩
def LdPost (w : World) (e : Ending) (w' : World) : Prop := ∃ (u r q : Int) (t : Bool) (c f wt : Int), mayL u r q c f wt = true ∧ e = .returned (loadV u r q t c f wt) ∧ Below w.heap.size w w'
theorem load_ex (u r q : Int) (t : Bool) (c f wt : Int) (w : World) : Calls Try.prog 7 #[.agg #[.int .i64 u, .int .i64 r, .int .i64 q, .bool t, .int .i64 c, .int .i64 f, .int .i64 wt]] w (LdPost w) :=
  (load_any u r q t c f wt w).mono fun _ _ ⟨he, hb⟩ => ⟨_, _, _, _, _, _, _, ldS_may u r q c f wt, he, hb⟩
end Go.Proofs.Ytolmkafmlblnoaa
