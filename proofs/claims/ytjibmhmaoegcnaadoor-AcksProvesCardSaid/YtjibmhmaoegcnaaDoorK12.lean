/- Parts of a proof, joined by program: Args, Top. -/
import Derived.Test.YtjibmhmaoegcnaaDoorK11
import Derived.ProofKit
import Derived.OpenShut
import Derived.ShutString
import Derived.ChangeOld
import Derived.Deep.Slices
import Derived.LaidMore
import Derived.Stop.Joined
import Derived.SevenTiedAt
import Derived.Test.YtjibmhmaoegcnaaDoorRows
namespace Go.Proofs.YtjibmhmaoegcnaaDoor
open Go.ChangeShapes Go.WideShapes Go.ChangeAt Go.RowKit Go.Deep
open Go.ChangeMaps (open_string shut_string)
set_option linter.unusedVariables false
theorem own : ownKnob Tryd.prog.godebug = none := by kernel_rfl
theorem laidOut : laidOutB Tryd.prog = true := by kernel_rfl
/-- What a whole word holds: the cells of the tables. -/
theorem trod_words {n : Nat} {cs : List Value} {m : Nat} {T : TypeId} {x : DataW Unit × List MemPlace} {w : World} {enc : TypeId × Value → Unit} {sp : Nat → Bool} {hd : Bool} (hu : (Tryd.prog).underlying T = some (.array n 111)) (hc : (Tryd.prog).cellsOf T = n) (l : List (BitVec 32))
    (h : DataW.trod enc Tryd.prog w 0 sp hd m T cs = some x) (hx : x.1 = .agg (l.map fun c => .lit (.int .u32 (c.toNat : Int)))) : cs = l.map W32 := by
  obtain ⟨xs, k, _, rfl, hl, hxl, hi⟩ := DataW.trod_array hu h
  have h1 : (Tryd.prog).cellsOf 111 = 1 := by kernel_rfl
  rw [hc] at hl
  simp only [DataW.agg.injEq] at hx
  have hll : l.length = n := by have := congrArg List.length hx; simp at this; omega
  refine List.ext_getElem? fun i => ?_
  by_cases hi' : i < n
  · have h3 := hi i hi'
    rw [h1, Nat.mul_one, List.getElem?_eq_getElem (by omega)] at h3
    obtain ⟨q, e1, e2, _⟩ := DataW.trod_int Tryd.underlying111 h3
    have h4 : cs[i]? = some (.int .u32 q) := by
      have := congrArg (·[0]?) e1
      simpa [List.getElem?_take, List.getElem?_drop] using this
    have h5 := congrArg (·[i]?) hx
    simp only [List.getElem?_map, List.getElem?_eq_getElem (show i < xs.length by omega), List.getElem?_eq_getElem (show i < l.length by omega), Option.map_some, Option.some.injEq] at h5
    rw [e2] at h5
    simp only [DataW.lit.injEq, Lit.int.injEq, true_and] at h5
    rw [h4, List.getElem?_map, List.getElem?_eq_getElem (show i < l.length by omega), h5]
    rfl
  · rw [List.getElem?_eq_none (by omega), List.getElem?_eq_none (by simp; omega)]
def laidList : List (String × DataW Unit) := [("chartroom/digest.start", Rows.laid_chartroom_digest_start), ("chartroom/digest.numbers", Rows.laid_chartroom_digest_numbers)]
theorem gStart : (Tryd.prog).globalNamed "chartroom/digest.start" = some 0 := by kernel_rfl
theorem gNums : (Tryd.prog).globalNamed "chartroom/digest.numbers" = some 1 := by kernel_rfl
theorem tStart : ((Tryd.prog).globals[0]?).map (·.type) = some 112 := by kernel_rfl
theorem tNums : ((Tryd.prog).globals[1]?).map (·.type) = some 132 := by kernel_rfl
theorem start_is : (Rows.laid_chartroom_digest_start : DataW Unit) = .agg (startV.words.map fun c => .lit (.int .u32 (c.toNat : Int))) := by kernel_rfl
theorem nums_is : (Rows.laid_chartroom_digest_numbers : DataW Unit) = .agg (kTab.map fun c => .lit (.int .u32 (c.toNat : Int))) := by kernel_rfl
theorem At.var {w : World} {name : String} {g : Nat} {cs : Array Value} (hg : (Tryd.prog).globalNamed name = some g) (h : w.var? Tryd.prog name = some cs) (l : List Value) (hl : cs.toList = l) : At w g 0 l ∧ (0 < l.length → g < w.heap.size) := by
  subst hl
  have hat : At w g 0 cs.toList := fun i hi => by
    rw [Nat.zero_add, World.var?_cell hg h i]
    simp at hi ⊢
  refine ⟨hat, fun h0 => ?_⟩
  have := hat 0 h0
  unfold World.cell? at this
  split at this
  · rename_i hh; exact (Array.getElem?_eq_some_iff.1 hh).1
  · cases this
theorem of_laid {W : World} (h : laidMetH Tryd.prog laidList W) : Laid W := by
  rw [MakeChecks.laidMetH_plain _ _ _ (by kernel_rfl)] at h
  obtain ⟨ps, ⟨g0, t0, cs0, f0, p0, q0, hg0, ht0, hv0, hd0, ⟨g1, t1, cs1, f1, p1, q1, hg1, ht1, hv1, hd1, _, _⟩, _⟩, _, _⟩ := h
  obtain rfl := Option.some.inj (gStart.symm.trans hg0)
  obtain rfl := Option.some.inj (gNums.symm.trans hg1)
  obtain rfl := Option.some.inj (tStart.symm.trans ht0)
  obtain rfl := Option.some.inj (tNums.symm.trans ht1)
  have e0 := trod_words Tryd.underlying112 (by kernel_rfl) startV.words hd0 start_is
  have e1 := trod_words Tryd.underlying132 (by kernel_rfl) kTab hd1 nums_is
  obtain ⟨a0, l0⟩ := At.var hg0 hv0 _ e0
  obtain ⟨a1, l1⟩ := At.var hg1 hv1 _ e1
  exact ⟨a0, a1, l0 (by decide), l1 (by rw [List.length_map]; decide)⟩
/-- The door's own heap meets the condition. -/
theorem door_met (os : Os) (args : Array Value) : laidMetH Tryd.prog laidList ((World.doorLaid Tryd.prog 400 os).forCall (fun _ _ => 0) ⟨#[], args, []⟩).memory :=
  laidMetH_of_parts3 (fuel := 70) (laidMet_of_run' 70 (by kernel_rfl) (by kernel_rfl)) (by kernel_rfl) (by kernel_rfl)
section
variable {H : Type} {enc : TypeId × Value → H} {w : World} {base : Nat} {sp : Nat → Bool} {held : Bool} {n : Nat} {cs : List Value} {x : DataW H × List MemPlace}
theorem ok_of_wf {n : Int} (h : (Lit.int .i64 n).wf = true) : (Leaf.int n).ok := by
  have := bounds_i64 h
  unfold Leaf.ok
  omega
theorem B8_of_wf {n : Int} (h : (Lit.int .u8 n).wf = true) : ∃ c : UInt8, Value.int .u8 n = B8 c := by
  have := bounds_u8 h
  refine ⟨UInt8.ofNat n.toNat, ?_⟩
  unfold B8
  rw [UInt8.toNat_ofNat_of_lt' (by show _ < 256; omega)]
  congr 1
  omega
/-- Every element of a list has a form: the list of the forms. -/
theorem forms {α β : Type} (f : α → β) (p : α → Prop) : ∀ l : List β, (∀ b ∈ l, ∃ a, p a ∧ b = f a) → ∃ zs : List α, zs.length = l.length ∧ (∀ a ∈ zs, p a) ∧ l = zs.map f
  | [], _ => ⟨[], rfl, by simp, rfl⟩
  | b :: l, h => by
    obtain ⟨a, ha, rfl⟩ := h b (by simp)
    obtain ⟨zs, h1, h2, rfl⟩ := forms f p l fun b hb => h b (by simp [hb])
    exact ⟨a :: zs, by simp, by simpa using ⟨ha, h2⟩, rfl⟩
theorem trod_chain (h : DataW.trod enc Tryd.prog w base sp held n 23 cs = some x) : ∃ ch : List UInt8, ch.length = 32 ∧ cs = ch.map B8 := by
  obtain ⟨xs, k, _, _, hl, hx, hi⟩ := DataW.trod_array Tryd.underlying23 h
  have h1 : (Tryd.prog).cellsOf 5 = 1 := by kernel_rfl
  have h2 : (Tryd.prog).cellsOf 23 = 32 := by kernel_rfl
  rw [h2] at hl
  obtain ⟨zs, e1, _, e2⟩ := forms B8 (fun _ => True) cs (fun v hv => by
    obtain ⟨i, hi', rfl⟩ := List.getElem_of_mem hv
    have h3 := hi i (by omega)
    rw [h1, Nat.mul_one, List.getElem?_eq_getElem (by omega)] at h3
    obtain ⟨q, e1, _, e2⟩ := DataW.trod_int Tryd.underlying5 h3
    have h4 : cs[i]? = some (.int .u8 q) := by
      have := congrArg (·[0]?) e1
      simpa [List.getElem?_take, List.getElem?_drop] using this
    rw [List.getElem?_eq_getElem hi', Option.some.injEq] at h4
    rw [h4]
    obtain ⟨c, hc⟩ := B8_of_wf e2
    exact ⟨c, trivial, hc⟩)
  exact ⟨zs, by omega, e2⟩
/-- The cells of a field, and what stands behind them. -/
theorem split_at (cs : List Value) (o k : Nat) : cs.drop o = (cs.drop o).take k ++ cs.drop (o + k) := by
  rw [← List.drop_drop, List.take_append_drop]
theorem trod_ack (h : DataW.trod enc Tryd.prog w base sp held n 27 cs = some x) : ∃ a : Ack, (a.ch.length = 32 ∧ a.ints) ∧ cs = a.cells := by
  obtain ⟨xs, k, _, _, hl, hx, hf⟩ := DataW.trod_struct Tryd.underlying27 h
  have c1 : (Tryd.prog).cellsOf 3 = 1 := by kernel_rfl
  have c2 : (Tryd.prog).cellsOf 23 = 32 := by kernel_rfl
  have c3 : (Tryd.prog).cellsOf 25 = 2 := by kernel_rfl
  have c4 : (Tryd.prog).cellsOf 27 = 38 := by kernel_rfl
  have hx' : xs.length = 6 := hx
  rw [c4] at hl
  have f0 : DataW.trod enc Tryd.prog w base sp held k 3 ((cs.drop 0).take ((Tryd.prog).cellsOf 3)) = xs[0]? := hf 0 _ rfl
  have f1 : DataW.trod enc Tryd.prog w base sp held k 3 ((cs.drop 1).take ((Tryd.prog).cellsOf 3)) = xs[1]? := hf 1 _ rfl
  have f2 : DataW.trod enc Tryd.prog w base sp held k 3 ((cs.drop 2).take ((Tryd.prog).cellsOf 3)) = xs[2]? := hf 2 _ rfl
  have f3 : DataW.trod enc Tryd.prog w base sp held k 3 ((cs.drop 3).take ((Tryd.prog).cellsOf 3)) = xs[3]? := hf 3 _ rfl
  have f4 : DataW.trod enc Tryd.prog w base sp held k 23 ((cs.drop 4).take ((Tryd.prog).cellsOf 23)) = xs[4]? := hf 4 _ rfl
  have f5 : DataW.trod enc Tryd.prog w base sp held k 25 ((cs.drop 36).take ((Tryd.prog).cellsOf 25)) = xs[5]? := hf 5 _ rfl
  rw [c1] at f0 f1 f2 f3
  rw [c2] at f4
  rw [c3] at f5
  rw [List.getElem?_eq_getElem (by omega)] at f0 f1 f2 f3 f4 f5
  obtain ⟨n0, e0, _, w0⟩ := DataW.trod_int Tryd.underlying3 f0
  obtain ⟨n1, e1, _, w1⟩ := DataW.trod_int Tryd.underlying3 f1
  obtain ⟨n2, e2, _, w2⟩ := DataW.trod_int Tryd.underlying3 f2
  obtain ⟨n3, e3, _, w3⟩ := DataW.trod_int Tryd.underlying3 f3
  obtain ⟨ch, hch, e4⟩ := trod_chain f4
  obtain ⟨ys, k5, _, _, hl5, hy, hg⟩ := DataW.trod_struct Tryd.underlying25 f5
  have g0 : DataW.trod enc Tryd.prog w base sp held k5 3 ((((cs.drop 36).take 2).drop 0).take ((Tryd.prog).cellsOf 3)) = ys[0]? := hg 0 _ rfl
  have g1 : DataW.trod enc Tryd.prog w base sp held k5 3 ((((cs.drop 36).take 2).drop 1).take ((Tryd.prog).cellsOf 3)) = ys[1]? := hg 1 _ rfl
  have hy' : ys.length = 2 := hy
  rw [c1] at g0 g1
  rw [List.getElem?_eq_getElem (by omega)] at g0 g1
  obtain ⟨n5, e5, _, w5⟩ := DataW.trod_int Tryd.underlying3 g0
  obtain ⟨n6, e6, _, w6⟩ := DataW.trod_int Tryd.underlying3 g1
  refine ⟨⟨n0, n1, n2, n3, ch, n5, n6⟩, ⟨hch, ok_of_wf w0, ok_of_wf w1, ok_of_wf w2, ok_of_wf w3, ok_of_wf w5, ok_of_wf w6⟩, ?_⟩
  have s5 : (cs.drop 36).take 2 = [.int .i64 n5, .int .i64 n6] := by
    have a1 := split_at ((cs.drop 36).take 2) 0 1
    have a2 := split_at ((cs.drop 36).take 2) 1 1
    simp only [List.drop_zero, Nat.zero_add, Nat.reduceAdd] at a1 a2 e5 e6
    rw [c3] at hl5
    rw [e5] at a1
    rw [e6, List.drop_of_length_le (show ((cs.drop 36).take 2).length ≤ 2 by omega)] at a2
    exact a1.trans (by rw [a2]; rfl)
  have b0 := split_at cs 0 1
  have b1 := split_at cs 1 1
  have b2 := split_at cs 2 1
  have b3 := split_at cs 3 1
  have b4 := split_at cs 4 32
  have b5 := split_at cs 36 2
  simp only [List.drop_zero, Nat.zero_add, Nat.reduceAdd] at b0 b1 b2 b3 b4 b5 e0 e1 e2 e3 e4
  rw [List.drop_of_length_le (show cs.length ≤ 38 by omega), List.append_nil, s5] at b5
  rw [e4, b5] at b4
  rw [e3, b4] at b3
  rw [e2, b3] at b2
  rw [e1, b2] at b1
  rw [e0, b1] at b0
  rw [b0]
  rfl
theorem trod_member (h : DataW.trod enc Tryd.prog w base sp held n 47 cs = some x) : ∃ m : Mem, (i64ok m.d ∧ i64ok m.since ∧ i64ok m.ver) ∧ cs = m.cells := by
  obtain ⟨xs, k, _, _, hl, hx, hf⟩ := DataW.trod_struct Tryd.underlying47 h
  have c1 : (Tryd.prog).cellsOf 3 = 1 := by kernel_rfl
  have c4 : (Tryd.prog).cellsOf 47 = 3 := by kernel_rfl
  have hx' : xs.length = 3 := hx
  rw [c4] at hl
  have f0 : DataW.trod enc Tryd.prog w base sp held k 3 ((cs.drop 0).take ((Tryd.prog).cellsOf 3)) = xs[0]? := hf 0 _ rfl
  have f1 : DataW.trod enc Tryd.prog w base sp held k 3 ((cs.drop 1).take ((Tryd.prog).cellsOf 3)) = xs[1]? := hf 1 _ rfl
  have f2 : DataW.trod enc Tryd.prog w base sp held k 3 ((cs.drop 2).take ((Tryd.prog).cellsOf 3)) = xs[2]? := hf 2 _ rfl
  rw [c1] at f0 f1 f2
  rw [List.getElem?_eq_getElem (by omega)] at f0 f1 f2
  obtain ⟨n0, e0, _, w0⟩ := DataW.trod_int Tryd.underlying3 f0
  obtain ⟨n1, e1, _, w1⟩ := DataW.trod_int Tryd.underlying3 f1
  obtain ⟨n2, e2, _, w2⟩ := DataW.trod_int Tryd.underlying3 f2
  have ok : ∀ {n : Int}, (Lit.int .i64 n).wf = true → i64ok n := fun h => by have := bounds_i64 h; unfold i64ok; omega
  refine ⟨⟨n0, n1, n2⟩, ⟨ok w0, ok w1, ok w2⟩, ?_⟩
  have b0 := split_at cs 0 1
  have b1 := split_at cs 1 1
  have b2 := split_at cs 2 1
  simp only [List.drop_zero, Nat.zero_add, Nat.reduceAdd] at b0 b1 b2 e0 e1 e2
  rw [e2, List.drop_of_length_le (show cs.length ≤ 3 by omega), List.append_nil] at b2
  rw [e1, b2] at b1
  rw [e0, b1] at b0
  rw [b0]
  rfl
theorem trod_entry (h : DataW.trod enc Tryd.prog w base sp held n 45 cs = some x) : ∃ e : Ent, e.fit ∧ cs = e.cells := by
  obtain ⟨xs, k, _, _, hl, hx, hf⟩ := DataW.trod_struct Tryd.underlying45 h
  have c1 : (Tryd.prog).cellsOf 3 = 1 := by kernel_rfl
  have c2 : (Tryd.prog).cellsOf 23 = 32 := by kernel_rfl
  have c3 : (Tryd.prog).cellsOf 28 = 1 := by kernel_rfl
  have c5 : (Tryd.prog).cellsOf 4 = 1 := by kernel_rfl
  have c4 : (Tryd.prog).cellsOf 45 = 35 := by kernel_rfl
  have hx' : xs.length = 4 := hx
  rw [c4] at hl
  have f0 : DataW.trod enc Tryd.prog w base sp held k 3 ((cs.drop 0).take ((Tryd.prog).cellsOf 3)) = xs[0]? := hf 0 _ rfl
  have f1 : DataW.trod enc Tryd.prog w base sp held k 23 ((cs.drop 1).take ((Tryd.prog).cellsOf 23)) = xs[1]? := hf 1 _ rfl
  have f2 : DataW.trod enc Tryd.prog w base sp held k 28 ((cs.drop 33).take ((Tryd.prog).cellsOf 28)) = xs[2]? := hf 2 _ rfl
  have f3 : DataW.trod enc Tryd.prog w base sp held k 4 ((cs.drop 34).take ((Tryd.prog).cellsOf 4)) = xs[3]? := hf 3 _ rfl
  rw [c1] at f0
  rw [c2] at f1
  rw [c3] at f2
  rw [c5] at f3
  rw [List.getElem?_eq_getElem (by omega)] at f0 f1 f2 f3
  obtain ⟨n0, e0, _, w0⟩ := DataW.trod_int Tryd.underlying3 f0
  obtain ⟨ch, hch, e1⟩ := trod_chain f1
  obtain ⟨g, e3, _⟩ := DataW.trod_bool Tryd.underlying4 f3
  obtain ⟨v, e2, hv⟩ : ∃ v, (cs.drop 33).take 1 = [v] ∧ v.oneCell' = true := by
    rcases DataW.trod_slice Tryd.underlying28 f2 with ⟨e, _⟩ | ⟨a, len, cap, _, _, _, _, e, _⟩
    · exact ⟨_, e, rfl⟩
    · exact ⟨_, e, rfl⟩
  refine ⟨⟨n0, ch.map B8 ++ [v], g⟩, ⟨by simp [hch], ?_⟩, ?_⟩
  · intro u hu
    simp only [List.mem_append, List.mem_map, List.mem_singleton] at hu
    rcases hu with ⟨_, _, rfl⟩ | rfl
    · rfl
    · exact hv
  have b0 := split_at cs 0 1
  have b1 := split_at cs 1 32
  have b2 := split_at cs 33 1
  have b3 := split_at cs 34 1
  simp only [List.drop_zero, Nat.zero_add, Nat.reduceAdd] at b0 b1 b2 b3 e0 e1 e2 e3
  rw [e3, List.drop_of_length_le (show cs.length ≤ 35 by omega), List.append_nil] at b3
  rw [e2, b3] at b2
  rw [e1, b2] at b1
  rw [e0, b1] at b0
  rw [b0]
  simp [Ent.cells]
set_option maxRecDepth 20000 in
/-- A slice of rows that came in. -/
theorem rows_in {r : Reach} {b0 : Nat} {t e : TypeId} {v : Value} {d : DataW H} {p : List MemPlace} {s : Nat} (ht : (Tryd.prog).underlying t = some (.slice e)) (hC : (Tryd.prog).cellsOf e = s) (hs : 0 < s) (hval : Value.okWide Tryd.prog w r b0 t v) (h : DataW.Trod enc Tryd.prog w base sp held t v d p) :
    v = .slice none 0 0 ∨ ∃ (b o : Nat) (css : List (List Value)) (cap : Nat), v = .slice (some ⟨b, o, none⟩) css.length cap ∧ css.length ≤ cap ∧ cap ≤ maxLen ∧ b < w.heap.size ∧ At w b o css.flatten ∧ ∀ cs ∈ css, ∃ n x, DataW.trod enc Tryd.prog w base sp held n e cs = some x ∧ cs.length = s := by
  obtain ⟨fuel, hf⟩ := h
  obtain ⟨a, len, cap, rfl⟩ := okWide_slice ht hval
  rcases open_slice ht hf with ⟨hcs, _⟩ | ⟨a', l, c, m, n, D, Pl, hcs, hb, hl, hm, hmm, hx, hi⟩
  · simp [Value.cells] at hcs
    obtain ⟨rfl, rfl, rfl⟩ := hcs
    exact .inl rfl
  · simp [Value.cells] at hcs
    obtain ⟨rfl, rfl, rfl⟩ := hcs
    right
    simp only [Value.okWide, ht, Cell.okWide, Cell.ok, World.has] at hval
    obtain ⟨_, _, _, hspot, row, cells, hsh, _⟩ := hval
    obtain ⟨b, o, spot⟩ := a'
    simp only at hspot
    subst hspot
    have hbl : b < w.heap.size := by
      unfold World.shape? at hsh
      split at hsh
      · rename_i hh; exact (Array.getElem?_eq_some_iff.1 hh).1
      · cases hsh
    rw [hC] at hi
    have hlm : len ≤ m := by rw [hmm]; split <;> omega
    have key : ∀ k, k ≤ len → ∃ css : List (List Value), css.length = k ∧ At w b o css.flatten ∧ css.flatten.length = k * s ∧ ∀ cs ∈ css, ∃ n x, DataW.trod enc Tryd.prog w base sp held n e cs = some x ∧ cs.length = s := by
      intro k hk
      induction k with
      | zero => exact ⟨[], rfl, fun i hi => by simp at hi, by simp, by simp⟩
      | succ k ih =>
        obtain ⟨css, h1, h2, h3, h4⟩ := ih (by omega)
        obtain ⟨cs', h5, h6⟩ := hi k (by omega)
        obtain ⟨_, h7, h8⟩ := World.cells?_some h5
        refine ⟨css ++ [cs'], by simp [h1], ?_, by simp [h3, h7, Nat.succ_mul], ?_⟩
        · intro i hi'
          simp only [List.flatten_append, List.flatten_singleton] at hi' ⊢
          by_cases hlt : i < css.flatten.length
          · rw [List.getElem_append_left hlt]; exact h2 i hlt
          · rw [List.getElem_append_right (by omega)]
            have hj : i - css.flatten.length < s := by rw [List.length_append] at hi'; omega
            have := h8 (i - css.flatten.length) hj
            rw [Addr.add_lit, Addr.add_lit, h3] at this
            rw [show o + i = o + k * s + (i - k * s) by omega]
            simp only [h3] at this ⊢
            rw [this, List.getElem?_eq_getElem (by omega)]
        · intro cs hcs
          simp only [List.mem_append, List.mem_singleton] at hcs
          rcases hcs with hcs | rfl
          · exact h4 cs hcs
          · exact ⟨n, _, h6, h7⟩
    obtain ⟨css, h1, h2, _, h4⟩ := key len (Nat.le_refl _)
    exact ⟨b, o, css, cap, by rw [h1], by omega, hm, hbl, h2, h4⟩
end
/-- A slice of things of a kind that came in. -/
def InRow {α : Type} (f : α → List Value) (w : World) (v : Value) (l : List α) : Prop :=
  (v = .slice none 0 0 ∧ l = []) ∨ ∃ b o cap, v = .slice (some ⟨b, o, none⟩) l.length cap ∧ l.length ≤ cap ∧ cap ≤ maxLen ∧ b < w.heap.size ∧ At w b o (l.flatMap f)
theorem InRow.new {α : Type} {f : α → List Value} {w w' : World} {v : Value} {l : List α} (h : InRow f w v l) (hg : Gr w none w') : InRow f w' v l := by
  rcases h with h | ⟨b, o, cap, h1, h2, h3, h4, h5⟩
  · exact .inl h
  · exact .inr ⟨b, o, cap, h1, h2, h3, Nat.lt_of_lt_of_le h4 hg.size, h5.grown hg (by simp)⟩
/-- How such a slice is spelled. -/
theorem InRow.form {α : Type} {f : α → List Value} {w : World} {v : Value} {l : List α} (h : InRow f w v l) : ∃ p b o c, v = .slice p l.length c ∧ (l = [] ∨ (p = some ⟨b, o, none⟩ ∧ b < w.heap.size ∧ At w b o (l.flatMap f))) := by
  rcases h with ⟨rfl, rfl⟩ | ⟨b, o, cap, rfl, _, _, h4, h5⟩
  · exact ⟨none, 0, 0, 0, rfl, .inl rfl⟩
  · exact ⟨_, b, o, cap, rfl, .inr ⟨rfl, h4, h5⟩⟩
set_option maxRecDepth 20000 in
theorem row_in {α : Type} (f : α → List Value) (q : α → Prop) {H : Type} {enc : TypeId × Value → H} {w : World} {base : Nat} {sp : Nat → Bool} {held : Bool} {r : Reach} {b0 : Nat} {t e : TypeId} {v : Value} {d : DataW H} {p : List MemPlace} {s : Nat}
    (ht : (Tryd.prog).underlying t = some (.slice e)) (hC : (Tryd.prog).cellsOf e = s) (hs : 0 < s) (hq : ∀ n cs x, cs.length = s → DataW.trod enc Tryd.prog w base sp held n e cs = some x → ∃ a, q a ∧ cs = f a) (hval : Value.okWide Tryd.prog w r b0 t v) (h : DataW.Trod enc Tryd.prog w base sp held t v d p) :
    ∃ l : List α, InRow f w v l ∧ ∀ a ∈ l, q a := by
  rcases rows_in ht hC hs hval h with rfl | ⟨b, o, css, cap, rfl, h1, h2, h3, h4, h5⟩
  · exact ⟨[], .inl ⟨rfl, rfl⟩, by simp⟩
  · obtain ⟨l, e1, e2, e3⟩ := forms f q css (fun cs hcs => by obtain ⟨n, x, h6, h7⟩ := h5 cs hcs; exact hq n cs x h7 h6)
    refine ⟨l, .inr ⟨b, o, cap, by rw [e1], by omega, h2, h3, ?_⟩, e2⟩
    rw [e3] at h4
    exact h4
theorem byte_of {H : Type} {enc : TypeId × Value → H} {w : World} {base : Nat} {sp : Nat → Bool} {held : Bool} {n : Nat} {cs : List Value} {x : DataW H × List MemPlace} (hl : cs.length = 1) (h : DataW.trod enc Tryd.prog w base sp held n 5 cs = some x) : ∃ c : UInt8, True ∧ cs = [B8 c] := by
  obtain ⟨q, e1, _, e2⟩ := DataW.trod_int Tryd.underlying5 h
  obtain ⟨c, hc⟩ := B8_of_wf e2
  exact ⟨c, trivial, by rw [e1, hc]⟩
theorem bool_of {H : Type} {enc : TypeId × Value → H} {w : World} {base : Nat} {sp : Nat → Bool} {held : Bool} {n : Nat} {cs : List Value} {x : DataW H × List MemPlace} (hl : cs.length = 1) (h : DataW.trod enc Tryd.prog w base sp held n 4 cs = some x) : ∃ c : Bool, True ∧ cs = [.bool c] := by
  obtain ⟨q, e1, _⟩ := DataW.trod_bool Tryd.underlying4 h
  exact ⟨q, trivial, e1⟩
end Go.Proofs.YtjibmhmaoegcnaaDoor
namespace Go.Proofs.YtjibmhmaoegcnaaDoor
end Go.Proofs.YtjibmhmaoegcnaaDoor
