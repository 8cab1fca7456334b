/- Parts of a proof, joined by program: Base2, Tagged, Shelf, Div. -/
import Derived.Test.YtjibmhmaoegcnaaDoorK1
import Derived.Lib.AppendZerosOnto
import Derived.Laws.AppendOwn
import Derived.Lib.ConvBytes
import Derived.Shelf.Small.Bits
import Derived.Shelf.Strconv.Itoa0
import Derived.Shelf.Bits.Mul64
import Derived.Shelf.Bytes.SlSearch0
import Derived.Shelf.Bytes.SlEqualAll
import Derived.Shelf.Bytes.Small
import Derived.Test.YtjibmhmaoegcnaaDoorProg
import Derived.StillTactics
import Derived.Deep.DeepCutAuto
import Derived.Deep.CutBlock
namespace Go.Proofs.YtjibmhmaoegcnaaDoor
open Go.RowKit
set_option linter.unusedVariables false

/-- A slice of bytes that is not nil and reads as l. -/
structure Bytes (w : World) (v : Value) (l : List UInt8) : Prop where
  ex : ∃ b o cap, v = .slice (some ⟨b, o, none⟩) l.length cap ∧ l.length ≤ cap ∧ cap ≤ maxLen ∧ b < w.heap.size ∧ At w b o (l.map B8)
theorem Bytes.grown {w w' : World} {v : Value} {l : List UInt8} {row : Option Nat} (h : Bytes w v l) (hg : Gr w row w') (hne : v.ownBlock ≠ row) : Bytes w' v l := by
  obtain ⟨b, o, cap, rfl, h1, h2, h3, h4⟩ := h.ex
  exact ⟨b, o, cap, rfl, h1, h2, Nat.lt_of_lt_of_le h3 hg.size, h4.grown hg hne⟩
theorem Bytes.new {w w' : World} {v : Value} {l : List UInt8} (h : Bytes w v l) (hg : Gr w none w') : Bytes w' v l := h.grown hg (by
  obtain ⟨b, o, cap, rfl, _⟩ := h.ex; simp [Value.ownBlock])
/-- A slice of bytes that the call owns: blocks from B on. -/
abbrev OwnB (w : World) (B : Nat) (v : Value) (l : List UInt8) : Prop := w.ownsRow B 5 1 v l.length (l.map B8)
theorem OwnB.bytes {w : World} {B : Nat} {v : Value} {l : List UInt8} (h : OwnB w B v l) (hv : v ≠ .slice none 0 0) : Bytes w v l := by
  obtain ⟨_, ⟨rfl, _⟩ | ⟨g, cap, cur, rfl, _, hb, h1, h2, h3, h4⟩⟩ := h
  · exact absurd rfl hv
  · refine ⟨g, 0, cap, rfl, h1, h2, (Array.getElem?_eq_some_iff.1 hb).1, fun i hi => ?_⟩
    simp only [List.length_map] at hi
    have : (cur.toList.take (l.length * 1))[i]? = (l.map B8)[i]? := by rw [h4]
    rw [List.getElem?_take_of_lt (by omega)] at this
    simp only [World.cell?, hb]
    rw [Nat.zero_add]
    simp at this ⊢
    rw [this]; simp [hi]
theorem OwnB.mono {w : World} {B B' : Nat} {v : Value} {l : List UInt8} (h : OwnB w B v l) (hB : B' ≤ B) : OwnB w B' v l := by
  obtain ⟨h1, h2 | ⟨g, cap, cur, hv, hg, r⟩⟩ := h
  · exact ⟨h1, .inl h2⟩
  · exact ⟨h1, .inr ⟨g, cap, cur, hv, Nat.le_trans hB hg, r⟩⟩
theorem OwnB.own {w : World} {B : Nat} {v : Value} {l : List UInt8} (h : OwnB w B v l) : ∀ b, v.ownBlock = some b → B ≤ b := by
  obtain ⟨_, ⟨rfl, _⟩ | ⟨g, cap, cur, rfl, hg, _⟩⟩ := h
  · intro b hb; cases hb
  · intro b hb; cases hb; exact hg
theorem OwnB.at_of {w : World} {b o : Nat} {l : List UInt8} (h : At w b o (l.map B8)) : ∀ (j : Nat) (u : Value), (l.map B8)[j]? = some u → w.cell? ((⟨b, o, none⟩ : Addr).add j) = some u := by
  intro j u hj
  obtain ⟨hl, rfl⟩ := List.getElem?_eq_some_iff.1 hj
  rw [Addr.add_lit]; exact h j hl
theorem info_u8 {P : Program} (h : (P.info? 5).map (fun i => (i.zero, i.size, i.bytes)) = some (some (.int .u8 0), 1, 1)) :
    ∃ i, P.info? 5 = some i ∧ i.zero = some (.int .u8 0) ∧ i.size = 1 ∧ i.bytes = 1 := by
  cases hq : P.info? 5 with
  | none => simp [hq] at h
  | some i => simp [hq] at h; exact ⟨i, rfl, h.1, h.2.1, h.2.2⟩
theorem setRow_new (w : World) (c : Array Value) (e : TypeId) (cs : Array Value) : (w.alloc (.cells c e (0, 0))).setRow w.heap.size cs = w.alloc (.cells cs e (0, 0)) := by
  show ({ w with heap := (w.heap.push _).modify w.heap.size _ } : World) = { w with heap := w.heap.push _ }
  congr 1
  apply Array.ext
  · simp
  · intro i h1 h2
    simp [Array.getElem_modify, Array.getElem_push]
    split
    · rename_i h; subst h; simp
    · have : i < w.heap.size := by simp at h2; omega
      simp [this]
/-- An aggregate is stored into a variable that has just been made. -/
theorem wl_store_new {P : Program} {ops : Array Oper} {rest : List Oper} {o : Oper} {a : Act} {w : World} {Q : Exit → Act → World → Prop} (hgd : o.guard = none) (ty : TypeId) (x y : Operand) (ho : o.op = .store ty x y)
    (cs : List Value) (c : Array Value) (e : TypeId) (hx : a.eval x = .pointer (some ⟨w.heap.size, 0, none⟩)) (hy : a.eval y = .agg cs.toArray) (hi : (P.info? ty).map (·.size) = some c.size) (hc : c.size = cs.length) (h1 : ∀ v ∈ cs, v.oneCell' = true)
    (h : wpList P ops Q rest (a.put o.dst undef) (w.alloc (.cells cs.toArray e (0, 0)))) : wpList P ops Q (o :: rest) a (w.alloc (.cells c e (0, 0))) := by
  refine wpList_store_row hgd ty x y ho w.heap.size cs.toArray hx hy e c (heap_alloc_new _ _) (by rw [hi, hc]; simp) (by simpa using hc) (by rw [List.all_toArray, List.all_eq_true]; exact h1) ?_
  rw [setRow_new]; exact h
/-- An aggregate is stored into a block that is known whole. -/
theorem wl_store_blk {P : Program} {ops : Array Oper} {rest : List Oper} {o : Oper} {a : Act} {w : World} {Q : Exit → Act → World → Prop} (hgd : o.guard = none) (ty : TypeId) (x y : Operand) (ho : o.op = .store ty x y)
    (g : Nat) (cs old : List Value) (e : TypeId) (hB : Blk w g e old) (hx : a.eval x = .pointer (some ⟨g, 0, none⟩)) (hy : a.eval y = .agg cs.toArray) (hi : (P.info? ty).map (·.size) = some cs.length) (hc : old.length = cs.length) (h1 : ∀ v ∈ cs, v.oneCell' = true)
    (h : ∀ w', Blk w' g e cs → Gr w (some g) w' → wpList P ops Q rest (a.put o.dst undef) w') : wpList P ops Q (o :: rest) a w :=
  wpList_store_row hgd ty x y ho g cs.toArray hx hy e old.toArray hB (by rw [hi]; simp) (by simpa using hc) (by rw [List.all_toArray, List.all_eq_true]; exact h1)
    (h _ (hB.setRow _) ((Gr.refl _ _).setRow (.inr rfl) _))
/-- An aggregate is read out of a block that is known whole. -/
theorem wl_load_blk {P : Program} {ops : Array Oper} {rest : List Oper} {o : Oper} {a : Act} {w : World} {Q : Exit → Act → World → Prop} (hgd : o.guard = none) (ty : TypeId) (x : Operand) (ho : o.op = .load ty x)
    (g : Nat) (cs : List Value) (e : TypeId) (d : TypeDesc) (hB : Blk w g e cs) (hx : a.eval x = .pointer (some ⟨g, 0, none⟩)) (hu : P.underlying ty = some d) (hd : (match d with | .struct _ | .array _ _ => true | _ => false) = true)
    (hi : (P.info? ty).map (·.size) = some cs.length) (h : wpList P ops Q rest (a.put o.dst (.agg cs.toArray)) w) : wpList P ops Q (o :: rest) a w :=
  wpList_load_row hgd ty x ho g hx e cs.toArray (0, 0) d hB hu hd (by rw [hi]; simp) h
theorem wpList_append_run {P : Program} {ops : Array Oper} {rest : List Oper} {o : Oper} {a : Act} {w : World} {Q : Exit → Act → World → Prop} (hgd : o.guard = none) (s x : Operand) (t1 t2 : TypeId)
    (ho : o.op = .call { callee := .builtin .append, args := #[s, x], argTypes := #[t1, t2] }) (v : Value) (w' : World) (hr : (Builtin.append_ #[t1, t2] o.type #[a.eval s, a.eval x]).run P w = .ok v w')
    (h : wpList P ops Q rest (a.put o.dst v) w') : wpList P ops Q (o :: rest) a w :=
  wpList_plain hgd fun _ hK => by
    unfold Oper.wp execOp
    simp only [ho, resolve, invoke, builtin, Sem.run_bind, Sem.run_pure, Result.andThen_ok, List.map_toArray, List.map_cons, List.map_nil, hr]
    exact hK _ _ h
theorem OwnB.of_append {w : World} {B : Nat} {v : Value} {xs ys : List UInt8} (h : w.ownsRow B 5 1 v (xs.length + ys.length) (xs.map B8 ++ ys.map B8)) : OwnB w B v (xs ++ ys) := by
  rw [← List.map_append, ← List.length_append] at h; exact h
/-- '[]byte(s)'. -/
theorem str_bytes {P : Program} (w : World) {S D : TypeId} {u : TypeDesc} (s : ByteArray) (hS : P.underlying S = some u) (hD : P.underlying D = some (.slice 5)) (hE : P.underlying 5 = some (.int .u8)) (hl : s.size ≤ maxLen) :
    ∃ v w', (convert S D (.string s)).run P w = .ok v w' ∧ Bytes w' v s.data.toList ∧ Gr w none w' := by
  refine ⟨_, _, Lib.run_convert_string_bytes w S D 5 s hS hD hE, ⟨w.heap.size, 0, _, rfl, ?_, ?_, ?_, ?_⟩, ?_⟩
  · exact grownCap_ge w s.size 0 _
  · exact grownCap_le_maxLen w s.size 0 _ hl
  · rw [Lib.bytesWorld_size]; omega
  · intro i hi
    simp only [List.length_map] at hi
    rw [Nat.zero_add, Lib.bytesWorld_cell w _ s i hi]
    rw [List.getD_eq_getElem?_getD, List.getElem?_eq_getElem hi]; simp [B8]
  · exact ⟨rfl, rfl, rfl, by rw [Lib.bytesWorld_size]; omega, fun k hk _ => Lib.bytesWorld_at_old w _ s k hk⟩
theorem wpList_convert_run {P : Program} {ops : Array Oper} {rest : List Oper} {o : Oper} {a : Act} {w : World} {Q : Exit → Act → World → Prop} (hgd : o.guard = none) (x : Operand) (t1 t2 : TypeId)
    (ho : o.op = .convert t1 t2 x) (v : Value) (w' : World) (hr : (convert t1 t2 (a.eval x)).run P w = .ok v w')
    (h : wpList P ops Q rest (a.put o.dst v) w') : wpList P ops Q (o :: rest) a w :=
  wpList_plain hgd fun _ hK => by
    unfold Oper.wp execOp
    simp only [ho, Sem.run_bind, Sem.run_pure, Result.andThen_ok, hr]
    exact hK _ _ h
end Go.Proofs.YtjibmhmaoegcnaaDoor
namespace Go.Proofs.YtjibmhmaoegcnaaDoor
open Go.RowKit
set_option linter.unusedVariables false

theorem info_u8_here : (Tryd.prog.info? 5).map (fun i => (i.zero, i.size, i.bytes)) = some (some (.int .u8 0), 1, 1) := by kernel_rfl
set_option maxHeartbeats 1000000 in
set_option maxRecDepth 100000 in
theorem grow_nil (n : Nat) (w : World) (h0 : 0 < n) (h1 : n ≤ 1000000000) :
    Calls Tryd.prog 65 #[.slice none 0 0, .int .i64 n] w fun r w' => ∃ v, r = .returned v ∧ OwnB w' w.heap.size v [] ∧ v ≠ .slice none 0 0 ∧ Gr w none w' := by
  obtain ⟨i, hi, hz0, hz1, hz2⟩ := info_u8 info_u8_here
  have hr := fun ty => Lib.run_append_grow_zeros w 28 3 ty 5 i (.int .u8 0) .i64 .i64 Tryd.underlying28 Tryd.underlying3 hi hz0 none 0 0 [] (run_firstCells_none w.drew i.size 0 0 0) n h0 (by omega) (by omega) (by omega) (by rw [hz2]; omega) (by rw [hz2]; unfold Builtin.nextslicecap; split <;> omega)
  have hge := grownCap_ge w (0 + n) 0 5
  have hle := grownCap_le_maxLen w (0 + n) 0 5 (by unfold maxLen; omega)
  generalize grownCap w (0 + n) 0 5 = c at *
  generalize hcs : (([] : List Value).toArray ++ Builtin.zeroCells (Value.int .u8 0).cells n ++ Builtin.zeroCells (Value.int .u8 0).cells (c - (0 + n))) = cs at *
  have hsz : cs.size = c := by rw [← hcs]; simp [Builtin.zeroCells, Value.cells]; omega
  have HC := Lib.hid hcs; clear hcs
  have HS := Lib.hid hsz; clear hsz
  have hp : (0 : Int) < n := by omega
  rw [Nat.zero_add] at *
  have HRR := Lib.hid hr; clear hr
  go_enter Tryd.func65, Tryd.ntmps65
  go_wp2_with (at_builtin; refine wpList_append_run rfl _ _ _ _ rfl _ _ (HRR.out _) ?_)
  go_ret
  refine ⟨_, rfl, ⟨rfl, .inr ⟨w.heap.size, c, cs, rfl, Nat.le_refl _, by show (w.heap.push _)[w.heap.size]? = _; simp, by simp, hle, by rw [HS.out]; simp, by simp⟩⟩, by simp, (Gr.refl w none).drew.alloc _⟩
set_option maxHeartbeats 2000000 in
set_option maxRecDepth 100000 in
theorem concat_any (b c1 c2 b1 o1 b2 o2 : Nat) (xs ys : List UInt8) (w : World) (hp : 0 < xs.length + ys.length) (hs : xs.length + ys.length ≤ 1000000)
    (hc0 : w.cell? ⟨b, 0, none⟩ = some (.slice (some ⟨b1, o1, none⟩) xs.length c1)) (hc1 : w.cell? ⟨b, 1, none⟩ = some (.slice (some ⟨b2, o2, none⟩) ys.length c2)) (hb : b < w.heap.size)
    (hx : At w b1 o1 (xs.map B8)) (hy : At w b2 o2 (ys.map B8)) :
    Calls Tryd.prog 35 #[.slice (some ⟨b, 0, none⟩) 2 2] w fun r w' => ∃ v, r = .returned v ∧ OwnB w' w.heap.size v (xs ++ ys) ∧ v ≠ .slice none 0 0 ∧ Gr w none w' := by
  obtain ⟨i0, hi, hz0, hz1, hz2⟩ := info_u8 info_u8_here
  go_enter Tryd.func35, Tryd.ntmps35
  go_wp2
  go_loop [3, 11] (fun s i => (i = .int .i64 0 ∧ s = .int .i64 0) ∨ (i = .int .i64 1 ∧ s = .int .i64 xs.length) ∨ (i = .int .i64 2 ∧ s = .int .i64 ((xs.length : Int) + ys.length))) (fun _ i => 2 - (intOf i).toNat)
  case atStart => exact .inl ⟨rfl, rfl⟩
  case round =>
    rcases hrel with ⟨rfl, rfl⟩ | ⟨rfl, rfl⟩ | ⟨rfl, rfl⟩
    · go_wp2
      go_round
      case rel => exact .inr (.inl ⟨rfl, rfl⟩)
      case measure => simp [intOf]
    · go_wp2
      go_round
      case rel => exact .inr (.inr ⟨rfl, rfl⟩)
      case measure => simp [intOf]
    · go_wp2_with fail
      rw [show ((xs.length : Int) + ys.length) = ((xs.length + ys.length : Nat) : Int) from by omega]
      refine (grow_nil _ _ hp (by omega)).mono ?_
      rintro r w' ⟨v, rfl, hv, hvn, hG⟩
      go_wp2
      have hv0 : OwnB w' w.heap.size v [] := hv
      go_loopw [6, 27] (fun s i wr => ((i = .int .i64 0 ∧ OwnB wr w.heap.size s []) ∨ (i = .int .i64 1 ∧ OwnB wr w.heap.size s xs) ∨ (i = .int .i64 2 ∧ OwnB wr w.heap.size s (xs ++ ys))) ∧ s ≠ .slice none 0 0 ∧ Gr w none wr) (fun _ i _ => 2 - (intOf i).toNat)
      case atStart => exact ⟨.inl ⟨rfl, hv0⟩, hvn, hG⟩
      case round =>
        clear hv0 hv hvn hG
        obtain ⟨⟨rfl, hv⟩ | ⟨rfl, hv⟩ | ⟨rfl, hv⟩, hvn, hG⟩ := hrel
        · have k0 := hG.cell hc0 (by simp)
          have ha := hx.grown hG (by simp)
          have ho := OwnB.own hv
          go_wp2_with (at_builtin; refine wpList_append_own _ rfl _ _ 28 rfl w.heap.size 5 i0 (.int .u8 0) 1 1 Tryd.underlying28 hi hz0 hz1 hz2 rfl (by decide) u6 _ _ rfl hv ⟨b1, o1, none⟩ xs.length c1 (xs.map B8) rfl (by simp) (OwnB.at_of ha) (ones_B8 _) (by unfold maxLen; simp; omega) (by simp; omega) hG.size ?_; intro v' w1 hown' hgrow hnil)
          go_roundw
          case rel => exact ⟨.inr (.inl ⟨rfl, by simpa using hown'⟩), fun e => hvn (hnil.1 e).1, hG.on hgrow (fun b hb => .inl (ho b hb))⟩
          case measure => simp [intOf]
        · have k0 := hG.cell hc1 (by simp)
          have ha := hy.grown hG (by simp)
          have ho := OwnB.own hv
          go_wp2_with (at_builtin; refine wpList_append_own _ rfl _ _ 28 rfl w.heap.size 5 i0 (.int .u8 0) 1 1 Tryd.underlying28 hi hz0 hz1 hz2 rfl (by decide) u6 _ _ rfl hv ⟨b2, o2, none⟩ ys.length c2 (ys.map B8) rfl (by simp) (OwnB.at_of ha) (ones_B8 _) (by unfold maxLen; simp; omega) (by simp; omega) hG.size ?_; intro v' w1 hown' hgrow hnil)
          go_roundw
          case rel => exact ⟨.inr (.inr ⟨rfl, OwnB.of_append hown'⟩), fun e => hvn (hnil.1 e).1, hG.on hgrow (fun b hb => .inl (ho b hb))⟩
          case measure => simp [intOf]
        · go_wp2
          go_ret
          exact ⟨_, rfl, hv, hvn, hG⟩
/-- The hash of bytes under a tag. -/
def tagged (tag l : List UInt8) : List UInt8 := sumOf (sumOf tag ++ l)
theorem tagged_length (tag l : List UInt8) : (tagged tag l).length = 32 := sumOf_length _
theorem sum_bytes (v : Value) (l : List UInt8) (w : World) (hl : l.length ≤ 1000000) (hv : Bytes w v l) (hK : Laid w) :
    Calls Tryd.prog 34 #[v] w fun r w' => r = .returned (Dg (sumOf l)) ∧ Gr w none w' := by
  obtain ⟨b, o, cap, rfl, h1, h2, h3, h4⟩ := hv.ex
  exact sum_any b o cap l w h1 h2 hl h4 h3 hK
set_option maxHeartbeats 2000000 in
set_option maxRecDepth 100000 in
theorem tagged_any (s : ByteArray) (v : Value) (l : List UInt8) (w : World) (hs : s.size ≤ 1000) (hl : l.length ≤ 900000) (hv : Bytes w v l) (hK : Laid w) :
    Calls Tryd.prog 17 #[.string s, v] w fun r w' => r = .returned (Dg (tagged s.data.toList l)) ∧ Gr w none w' := by
  go_enter Tryd.func17, Tryd.ntmps17
  go_upto_region 1 with fail
  have hT := Blk.new w 23 (zerosB 32)
  have hG : Gr w none (w.alloc (.cells (zerosB 32).toArray 23)) := (Gr.refl _ _).alloc _
  change Code.wp _ _ _ _ (w.alloc (.cells (zerosB 32).toArray 23))
  generalize w.alloc (.cells (zerosB 32).toArray 23) = W0 at *
  obtain ⟨v7, w7, h7, hB7, hG7⟩ := str_bytes (P := Tryd.prog) W0 s Tryd.underlying9 Tryd.underlying28 Tryd.underlying5 (by unfold maxLen; omega)
  have hs7 : s.data.toList.length ≤ 1000 := hs
  obtain ⟨b, o, cap, rfl, hb1, hb2, hb3, hb4⟩ := hv.ex
  clear hv
  go_upto_region 2 with (first
    | (refine wpList_convert_run rfl _ _ _ rfl _ _ h7 ?_)
    | (refine wl_store_new rfl 23 _ _ rfl ((sumOf s.data.toList).map B8) _ _ rfl rfl (by kernel_rfl) (by rw [List.length_map, sumOf_length]; rfl) (ones_B8 _) ?_)
    | (go_at_call 34; refine (sum_bytes _ _ _ (by omega) hB7 (hK.new (hG.on hG7 (by simp)))).mono ?_; rintro r w1 ⟨rfl, hG1⟩))
  have hD := Blk.new w1 23 ((sumOf s.data.toList).map B8)
  have hG2 : Gr w none (w1.alloc (.cells ((sumOf s.data.toList).map B8).toArray 23)) := ((hG.on hG7 (by simp)).on hG1 (by simp)).alloc _
  have hT2 : Blk (w1.alloc (.cells ((sumOf s.data.toList).map B8).toArray 23)) w.heap.size 23 (zerosB 32) := ((hT.grown hG7 (by simp)).grown hG1 (by simp)).alloc _
  have hwt : w.heap.size < w1.heap.size := ((hT.grown hG7 (by simp)).grown hG1 (by simp)).lt
  clear hT hG hG7 hB7 h7 hG1
  generalize (w1.alloc (.cells ((sumOf s.data.toList).map B8).toArray 23)) = W2 at *
  generalize w1.heap.size = g1 at *
  go_wp2_with fail
  have hV : Blk (W2.alloc (.cells #[.slice (some ⟨g1, 0, none⟩) 32 32, .slice (some ⟨b, o, none⟩) l.length cap] 28)) W2.heap.size 28 [.slice (some ⟨g1, 0, none⟩) 32 32, .slice (some ⟨b, o, none⟩) l.length cap] := Blk.new W2 _ _
  have hG3 := hG2.alloc (.cells #[.slice (some ⟨g1, 0, none⟩) 32 32, .slice (some ⟨b, o, none⟩) l.length cap] 28)
  have hT3 := hT2.alloc (.cells #[.slice (some ⟨g1, 0, none⟩) 32 32, .slice (some ⟨b, o, none⟩) l.length cap] 28)
  have hD3 := hD.alloc (.cells #[.slice (some ⟨g1, 0, none⟩) 32 32, .slice (some ⟨b, o, none⟩) l.length cap] 28)
  generalize hW3 : (W2.alloc (.cells #[.slice (some ⟨g1, 0, none⟩) 32 32, .slice (some ⟨b, o, none⟩) l.length cap] 28)) = W3 at *
  clear hW3 hD hG2 hT2
  have hsl : (sumOf s.data.toList).length = 32 := sumOf_length _
  refine (concat_any _ 32 cap g1 0 b o (sumOf s.data.toList) l _ (by omega) (by omega) (by rw [hsl]; exact hV.cell 0 (by simp)) (hV.cell 1 (by simp)) hV.lt (hD3.at0) (hb4.grown hG3 (by simp))).mono ?_
  rintro r w4 ⟨v4, rfl, hv4, hn4, hG4⟩
  have hB4 := hv4.bytes hn4
  have hG5 := hG3.on hG4 (by simp)
  have hT5 := hT3.grown hG4 (by simp)
  clear hG3 hG4 hT3 hV hD3 hb4 hv4
  have HSL := Lib.hid hsl; clear hsl
  go_wp2_with fail
  refine (sum_bytes _ _ _ (by rw [List.length_append, HSL.out]; omega) hB4 (hK.new hG5)).mono ?_
  rintro r w6 ⟨rfl, hG6⟩
  have hT6 := hT5.grown hG6 (by simp)
  have hG7 := hG5.on hG6 (by simp)
  clear hT5 hG5 hG6
  go_wp2_with (refine wl_store_blk rfl 23 _ _ rfl w.heap.size ((sumOf (sumOf s.data.toList ++ l)).map B8) _ _ hT6 rfl rfl (by rw [List.length_map, sumOf_length]; kernel_rfl) (by rw [List.length_map, sumOf_length]; rfl) (ones_B8 _) ?_; intro w8 hT8 hG8)
  refine bodyPost_ret (results_cell_row rfl _ _ w.heap.size _ _ _ _ rfl hT8 Tryd.underlying23 rfl (by rw [List.size_toArray, List.length_map, sumOf_length]; kernel_rfl)) rfl ⟨rfl, hG7.on hG8 (by simp)⟩
end Go.Proofs.YtjibmhmaoegcnaaDoor
namespace Go.Proofs
open Go.Shelf
def Tryd.lays134_ren : Go.Shelf.Ren := ⟨fun | 134 => 98 | 129 => 95 | n => n, fun | 53 => 109 | 3 => 3 | 4 => 4 | 46 => 130 | 5 => 5 | 9 => 9 | n => n, fun | n => n⟩
theorem Tryd.lays134 : Go.Proofs.Lays.n134 Tryd.prog Tryd.lays134_ren := {
  mixed := by kernel_rfl
  f129 := Tryd.func95.trans (congrArg some (by kernel_rfl))
  f134 := Tryd.func98.trans (congrArg some (by kernel_rfl))
  t3 := Tryd.underlying3
  a3 := Tryd.isAgg3
  z3 := Tryd.sizeOf3
  v3 := Tryd.zeroValue3
  t4 := Tryd.underlying4
  a4 := Tryd.isAgg4
  z4 := Tryd.sizeOf4
  v4 := Tryd.zeroValue4
  t5 := Tryd.underlying5
  a5 := Tryd.isAgg5
  z5 := Tryd.sizeOf5
  v5 := Tryd.zeroValue5
  t9 := Tryd.underlying9
  a9 := Tryd.isAgg9
  z9 := Tryd.sizeOf9
  v9 := Tryd.zeroValue9
  t46 := Tryd.underlying130
  a46 := Tryd.isAgg130
  z46 := Tryd.sizeOf130
  v46 := Tryd.zeroValue130
  t53 := Tryd.underlying109
  a53 := Tryd.isAgg109
  z53 := Tryd.sizeOf109
  v53 := Tryd.zeroValue109 }
/-- bits.LeadingZeros64: "LeadingZeros64 returns the number of leading zero bits in x; the result is 64 for x == 0.": IT RETURNS '64 - Lib.bitLen x'; the world is as it was. ITS CALLEE bits.Len64 IS MET BY ITS OWN CONTRACT OFF THE SHELF (lay that first): entered in place it sends the kernel out of memory. (LAID: no walk: one application.) -/
theorem Tryd.bits_LeadingZeros64 (x : Int) (w : World) (h0 : 0 ≤ x) (h1 : x ≤ 18446744073709551615) :
    Calls Tryd.prog 98 #[.int .u64 x] w fun e w' => e = .returned (.int .i64 (64 - (Lib.bitLen x.toNat : Int))) ∧ w' = w := Any.bits_LeadingZeros64 Tryd.lays134 x w h0 h1
def Tryd.lays129_ren : Go.Shelf.Ren := ⟨fun | 129 => 95 | n => n, fun | 53 => 109 | 3 => 3 | 4 => 4 | 46 => 130 | 5 => 5 | 9 => 9 | n => n, fun | n => n⟩
theorem Tryd.lays129 : Go.Proofs.Lays.n129 Tryd.prog Tryd.lays129_ren := {
  mixed := by kernel_rfl
  f129 := Tryd.func95.trans (congrArg some (by kernel_rfl))
  t3 := Tryd.underlying3
  a3 := Tryd.isAgg3
  z3 := Tryd.sizeOf3
  v3 := Tryd.zeroValue3
  t4 := Tryd.underlying4
  a4 := Tryd.isAgg4
  z4 := Tryd.sizeOf4
  v4 := Tryd.zeroValue4
  t5 := Tryd.underlying5
  a5 := Tryd.isAgg5
  z5 := Tryd.sizeOf5
  v5 := Tryd.zeroValue5
  t9 := Tryd.underlying9
  a9 := Tryd.isAgg9
  z9 := Tryd.sizeOf9
  v9 := Tryd.zeroValue9
  t46 := Tryd.underlying130
  a46 := Tryd.isAgg130
  z46 := Tryd.sizeOf130
  v46 := Tryd.zeroValue130
  t53 := Tryd.underlying109
  a53 := Tryd.isAgg109
  z53 := Tryd.sizeOf109
  v53 := Tryd.zeroValue109 }
/-- bits.Len64: "Len64 returns the minimum number of bits required to represent x; the result is 0 for x == 0.": IT RETURNS 'Lib.bitLen x'; the world is as it was. ('h0', 'h1': x is a uint64.) (LAID: no walk: one application.) -/
theorem Tryd.bits_Len64 (x : Int) (w : World) (h0 : 0 ≤ x) (h1 : x ≤ 18446744073709551615) :
    Calls Tryd.prog 95 #[.int .u64 x] w fun e w' => e = .returned (.int .i64 (Lib.bitLen x.toNat)) ∧ w' = w := Any.bits_Len64 Tryd.lays129 x w h0 h1
def Tryd.lays264_ren : Go.Shelf.Ren := ⟨fun | 264 => 91 | n => n, fun | 53 => 109 | 46 => 130 | n => n, fun | n => n⟩
theorem Tryd.lays264 : Go.Proofs.Lays.n264 Tryd.prog Tryd.lays264_ren := {
  mixed := by kernel_rfl
  f264 := Tryd.func91.trans (congrArg some (by kernel_rfl))
  t46 := Tryd.underlying130
  a46 := Tryd.isAgg130
  z46 := Tryd.sizeOf130
  v46 := Tryd.zeroValue130
  t53 := Tryd.underlying109
  a53 := Tryd.isAgg109
  z53 := Tryd.sizeOf109
  v53 := Tryd.zeroValue109 }
open Go.RowKit Go.Lib in
theorem Tryd.bits_Mul64 (x y : Nat) (hx : x < 18446744073709551616) (hy : y < 18446744073709551616) (w : World) :
    Calls Tryd.prog 91 #[.int .u64 x, .int .u64 y] w fun e w' => e = .returned (.tuple #[.int .u64 ((x * y / 18446744073709551616 : Nat) : Int), .int .u64 ((x * y % 18446744073709551616 : Nat) : Int)]) ∧ w' = w := Any.bits_Mul64 Tryd.lays264 x y hx hy w
def Tryd.lays115_ren : Go.Shelf.Ren := ⟨fun | 115 => 29 | n => n, fun | 37 => 28 | 4 => 4 | 9 => 9 | 5 => 5 | n => n, fun | n => n⟩
theorem Tryd.lays115 : Go.Proofs.Lays.n115 Tryd.prog Tryd.lays115_ren := {
  mixed := by kernel_rfl
  f115 := Tryd.func29.trans (congrArg some (by kernel_rfl))
  t4 := Tryd.underlying4
  a4 := Tryd.isAgg4
  z4 := Tryd.sizeOf4
  v4 := Tryd.zeroValue4
  t9 := Tryd.underlying9
  a9 := Tryd.isAgg9
  z9 := Tryd.sizeOf9
  v9 := Tryd.zeroValue9
  t37 := Tryd.underlying28
  a37 := Tryd.isAgg28
  z37 := Tryd.sizeOf28
  v37 := Tryd.zeroValue28 }
open Go.Proofs Go.RowKit Go.Lib in
/-- bytes.Equal, each argument with what 'string(..)' of it gives. (LAID: no walk: one application.) -/
theorem Tryd.bytes_Equal_strs (v1 v2 : Value) (t1 t2 : ByteArray) (w : World) (h1 : (convert 28 9 v1).run Tryd.prog w = .ok (.string t1) w) (h2 : (convert 28 9 v2).run Tryd.prog w = .ok (.string t2) w) :
    Calls Tryd.prog 29 #[v1, v2] w fun e w' => e = .returned (.bool (t1.toList == t2.toList)) ∧ w' = w := Any.bytes_Equal_strs Tryd.lays115 v1 v2 t1 t2 w h1 h2
def Tryd.laysnb115_ren : Go.Shelf.Ren := ⟨fun | 115 => 29 | n => n, fun | 37 => 28 | 4 => 4 | 9 => 9 | 5 => 5 | n => n, fun | n => n⟩
theorem Tryd.laysnb115 : Go.Proofs.Lays.nb115 Tryd.prog Tryd.laysnb115_ren := {
  mixed := by kernel_rfl
  f115 := Tryd.func29.trans (congrArg some (by kernel_rfl))
  t4 := Tryd.underlying4
  a4 := Tryd.isAgg4
  z4 := Tryd.sizeOf4
  v4 := Tryd.zeroValue4
  t9 := Tryd.underlying9
  a9 := Tryd.isAgg9
  z9 := Tryd.sizeOf9
  v9 := Tryd.zeroValue9
  t37 := Tryd.underlying28
  a37 := Tryd.isAgg28
  z37 := Tryd.sizeOf28
  v37 := Tryd.zeroValue28
  t5 := Tryd.underlying5
  a5 := Tryd.isAgg5
  z5 := Tryd.sizeOf5
  v5 := Tryd.zeroValue5 }
/-- bytes.Equal: WHOLE. (LAID: no walk: one application.) -/
theorem Tryd.bytes_Equal_all (p1 p2 : Option Addr) (n c m d : Nat) (xs ys : List Int) (w : World) (hx : xs.length = n) (hy : ys.length = m) (h1 : Lib.BytesIn w p1 n xs) (h2 : Lib.BytesIn w p2 m ys) :
    Calls Tryd.prog 29 #[.slice p1 n c, .slice p2 m d] w fun e w' => e = .returned (.bool (Lib.bytesOf xs == Lib.bytesOf ys)) ∧ w' = w := Any.bytes_Equal_all Tryd.laysnb115 p1 p2 n c m d xs ys w hx hy h1 h2
/-- bytes.Equal: "Equal reports whether a and b are the same length and contain the same bytes. A nil argument is equivalent to an empty slice.": IT RETURNS 'the bytes of the one == the bytes of the other'; the world is as it was. THE TWO ARGUMENTS COME AS WHATEVER VALUES, each with the one fact that the walk wants of it: what 'string(..)' of it gives: for a slice whose cells you know: 'run_convert_bytes_arg' (Derived/Laws/BytesArg.lean) hands that fact; for a nil one: 'run_convert_bytes_nil' (with xs := []). (LAID: no walk: one application.) -/
theorem Tryd.bytes_Equal (v1 v2 : Value) (xs ys : List Int) (w : World) (h1 : (convert 28 9 v1).run Tryd.prog w = .ok (.string (strOfNums xs)) w) (h2 : (convert 28 9 v2).run Tryd.prog w = .ok (.string (strOfNums ys)) w) :
    Calls Tryd.prog 29 #[v1, v2] w fun e w' => e = .returned (.bool (Lib.bytesOf xs == Lib.bytesOf ys)) ∧ w' = w := Any.bytes_Equal Tryd.lays115 v1 v2 xs ys w h1 h2
end Go.Proofs
namespace Go.Proofs.YtjibmhmaoegcnaaDoor
open Go.RowKit
set_option linter.unusedVariables false
theorem or_low (a b s : Nat) (hb : b < 2 ^ s) : a * 2 ^ s ||| b = a * 2 ^ s + b := by
  rw [Nat.mul_comm, ← Nat.two_pow_add_eq_or_of_lt hb a]
theorem int_eq {k : IntKind} {a b : Int} (h : a = b) : Value.int k a = Value.int k b := by rw [h]
theorem sum_step {q r d u : Nat} (h : q * d + r = u) (h1 : 1 ≤ q) : (q - 1) * d + (r + d) = u := by
  obtain ⟨k, rfl⟩ : ∃ k, q = k + 1 := ⟨q - 1, by omega⟩
  rw [Nat.add_sub_cancel]; rw [Nat.add_mul] at h; omega
theorem div_final (b N y s2 D Q1 Q2 R1 R2 u u1 u0 : Nat) (hD : D = y * s2) (hs : 0 < s2) (hN : N * s2 = u * (b * b) + u1 * b + u0) (hT1 : Q1 * D + R1 = u * b + u1)
    (hT2 : Q2 * D + R2 = R1 * b + u0) (hR2 : R2 < D) : N / y = Q1 * b + Q2 ∧ N % y = R2 / s2 := by
  have e1 : (Q1 * b + Q2) * D + R2 = N * s2 := by
    rw [hN, Nat.add_mul, Nat.add_assoc, hT2, Nat.mul_right_comm, ← Nat.add_assoc, ← Nat.add_mul, hT1, Nat.add_mul, Nat.mul_assoc]
  obtain ⟨q, hq⟩ : ∃ q, q = Q1 * b + Q2 := ⟨_, rfl⟩
  rw [← hq] at e1 ⊢
  clear hN hT1 hT2 hq
  have e2 : R2 = (N - q * y) * s2 := by
    rw [Nat.sub_mul, Nat.mul_assoc, ← hD]; omega
  have h3 : q * y ≤ N := by
    have h : q * y * s2 ≤ N * s2 := by rw [Nat.mul_assoc, ← hD]; omega
    exact Nat.le_of_mul_le_mul_right h hs
  have h4 : N - q * y < y := by
    have h : (N - q * y) * s2 < y * s2 := by rw [← e2, ← hD]; exact hR2
    exact Nat.lt_of_mul_lt_mul_right h
  have h5 : R2 / s2 = N - q * y := by rw [e2]; exact Nat.mul_div_cancel _ hs
  rw [h5]
  have h6 : N = (N - q * y) + y * q := by rw [Nat.mul_comm y q]; omega
  generalize N - q * y = r at *
  subst h6
  constructor
  · rw [Nat.add_mul_div_left _ _ (by omega), Nat.div_eq_of_lt h4]; omega
  · rw [Nat.add_mul_mod_self_left, Nat.mod_eq_of_lt h4]
theorem wrap_chain (a b c R : Int) (h : a + b - c = R) (h0 : 0 ≤ R) (h1 : R < 18446744073709551616) : IntKind.u64.wrap (IntKind.u64.wrap (IntKind.u64.wrap a + b) - IntKind.u64.wrap c) = R := by
  rw [IntKind.wrap_u64, IntKind.wrap_u64, IntKind.wrap_u64, IntKind.wrap_u64]; omega
theorem wrap_join (a b : Nat) (ha : a < 4294967296) (hb : b < 4294967296) : IntKind.u64.wrap (IntKind.u64.wrap ((a : Int) * 4294967296) + b) = ((a * 4294967296 + b : Nat) : Int) := by
  rw [IntKind.wrap_u64, IntKind.wrap_u64]; omega
theorem wrap_lt (n : Nat) (h : n < 18446744073709551616) : IntKind.u64.wrap (n : Int) = (n : Int) := by
  rw [IntKind.wrap_u64]; exact Int.emod_eq_of_lt (Int.natCast_nonneg n) (Int.ofNat_lt.2 h)
theorem wrap_rem (u d : Nat) (hu : u < 18446744073709551616) : IntKind.u64.wrap ((u : Int) - IntKind.u64.wrap (((u / d : Nat) : Int) * (d : Int))) = ((u % d : Nat) : Int) := by
  have h1 : d * (u / d) ≤ u := Nat.mul_div_le u d
  have h2 := Nat.div_add_mod u d
  rw [← Int.natCast_mul, wrap_lt _ (by rw [Nat.mul_comm]; omega), ← Int.natCast_sub (by rw [Nat.mul_comm]; exact h1)]
  rw [show u - u / d * d = u % d from by rw [Nat.mul_comm]; omega]
  exact wrap_lt _ (Nat.lt_of_le_of_lt (Nat.mod_le u d) hu)
theorem still_of' {P : Program} {f : FuncId} {args : Array Value} {w : World} {v : Value} (h : Calls P f args w fun e w' => e = .returned v ∧ w' = w) :
    Calls P f args w fun e w'' => e = .returned v ∧ w = w'' := h.mono fun _ _ ⟨h1, h2⟩ => ⟨h1, h2.symm⟩

/-! divisor 4611686018427377339 -/
theorem qhat_dP (v x Q R p r : Nat) (hx : x < 4294967296) (hp : p * 4294967295 + r = v) (hr : r < 4294967295) (hT : 18446744073709509356 * Q + R = v * 4294967296 + x) (hR : R < 18446744073709509356) (hv : v < 18446744073709509356) : Q ≤ p ∧ p ≤ Q + 2 ∧ Q < 4294967296 := by
  refine ⟨?_, ?_, ?_⟩ <;> omega
theorem lz_dP (w : World) : Calls Tryd.prog 98 #[.int .u64 4611686018427377339] w fun e w' => e = .returned (.int .i64 2) ∧ w = w' := by
  refine (Tryd.bits_LeadingZeros64 4611686018427377339 w (by omega) (by omega)).mono ?_
  rintro e w' ⟨rfl, rfl⟩
  refine ⟨?_, rfl⟩
  have h : Lib.bitLen (Int.toNat 4611686018427377339) = 62 := by decide
  rw [h]; rfl
set_option maxHeartbeats 1000000 in
set_option maxRecDepth 100000 in
theorem div64_dP (hi lo : Nat) (w : World) (h1 : hi < 4611686018427377339) (h2 : lo < 18446744073709551616) :
    Calls Tryd.prog 92 #[.int .u64 hi, .int .u64 lo, .int .u64 4611686018427377339] w fun e w' => e = .returned (.tuple #[.int .u64 (((hi * 18446744073709551616 + lo) / 4611686018427377339 : Nat) : Int), .int .u64 (((hi * 18446744073709551616 + lo) % 4611686018427377339 : Nat) : Int)]) ∧ Gr w none w' := by
  by_cases hz : hi = 0
  · subst hz
    go_enter Tryd.func92, Tryd.ntmps92
    go_wp2
    go_still (by kernel_rfl)
    go_wp2
    go_ret2
    refine ⟨?_, (Gr.refl w none).drew⟩
    simp
    exact ⟨by rw [IntKind.wrap_u64]; omega, Int.tmod_eq_emod_of_nonneg (by omega)⟩
  · have hle : decide ((4611686018427377339 : Int) ≤ (hi : Int)) = false := by simp; omega
    have hzb : ((hi : Int) == 0) = false := by simp; omega
    have e10 : bits .and .u64 18446744073709509356 4294967295 = 4294925036 := by decide +kernel
    have e11 : bits .or .u64 ((hi : Int) * 4) ((lo : Int) / 4611686018427387904) = ((hi * 4 + lo / 4611686018427387904 : Nat) : Int) := by
      have g1 : ((hi : Int) * 4) = ((hi * 4 : Nat) : Int) := by omega
      have g2 : ((lo : Int) / 4611686018427387904) = ((lo / 4611686018427387904 : Nat) : Int) := by omega
      rw [g1, g2, bits_or_u64_nat _ _ (by omega) (by omega), or_low hi (lo / 4611686018427387904) 2 (by omega)]
    have e12 : IntKind.u64.wrap ((lo : Int) * 4) = ((lo * 4 % 18446744073709551616 : Nat) : Int) := by rw [IntKind.wrap_u64]; omega
    have e13 : ((lo * 4 % 18446744073709551616 : Nat) : Int) / 4294967296 = ((lo * 4 % 18446744073709551616 / 4294967296 : Nat) : Int) := by omega
    have e14 : bits .and .u64 ((lo * 4 % 18446744073709551616 : Nat) : Int) 4294967295 = ((lo * 4 % 4294967296 : Nat) : Int) := by
      rw [show (4294967295 : Int) = ((4294967295 : Nat) : Int) from rfl, bits_and_u64_nat _ _ (by omega) (by omega), show (4294967295 : Nat) = 2 ^ 32 - 1 from rfl, Nat.and_two_pow_sub_one_eq_mod]
      omega
    generalize hu : hi * 4 + lo / 4611686018427387904 = u at *
    generalize ht1 : lo * 4 % 18446744073709551616 = t at *
    generalize hu1 : t / 4294967296 = u1 at *
    generalize hu0 : lo * 4 % 4294967296 = u0 at *
    have HU := Lib.hid hu; have HT := Lib.hid ht1; have HU1 := Lib.hid hu1; have HU0 := Lib.hid hu0; clear hu ht1 hu1 hu0
    have hU : u < 18446744073709509356 := by rw [← HU.out]; omega
    have hT : t < 18446744073709551616 := by rw [← HT.out]; omega
    have hU1 : u1 < 4294967296 := by rw [← HU1.out]; omega
    have hU0 : u0 < 4294967296 := by rw [← HU0.out]; omega
    have hN : (hi * 18446744073709551616 + lo) * 4 = u * 18446744073709551616 + u1 * 4294967296 + u0 := by rw [← HU.out, ← HU1.out, ← HT.out, ← HU0.out]; omega
    have HN := Lib.hid hN; clear hN
    have e15 : ((u : Int) / 4294967295) = ((u / 4294967295 : Nat) : Int) := by omega
    have e16 : IntKind.u64.wrap ((u : Int) - IntKind.u64.wrap (((u / 4294967295 : Nat) : Int) * 4294967295)) = ((u % 4294967295 : Nat) : Int) := wrap_rem u 4294967295 (by omega)
    generalize hq0 : u / 4294967295 = q0 at *
    generalize hr0 : u % 4294967295 = r0 at *
    have HQ0 := Lib.hid hq0; have HR0 := Lib.hid hr0; clear hq0 hr0
    go_enter Tryd.func92, Tryd.ntmps92
    go_upto_block 0 with (go_at_call 98; refine (lz_dP _).mono ?_; rintro r w' ⟨rfl, rfl⟩)
    have hqt := Nat.div_add_mod (u * 4294967296 + u1) 18446744073709509356
    have hqm := Nat.mod_lt (u * 4294967296 + u1) (show 0 < 18446744073709509356 by decide)
    generalize hQ1 : (u * 4294967296 + u1) / 18446744073709509356 = Q1 at *
    generalize hR1 : (u * 4294967296 + u1) % 18446744073709509356 = R1 at *
    have HQ1 := Lib.hid hQ1; have HR1 := Lib.hid hR1; have HQT := Lib.hid hqt; clear hQ1 hR1 hqt
    have hs0 : q0 * 4294967295 + r0 = u := by rw [← HQ0.out, ← HR0.out, Nat.mul_comm]; exact Nat.div_add_mod _ _
    have hr0 : r0 < 4294967295 := by rw [← HR0.out]; exact Nat.mod_lt _ (by decide)
    obtain ⟨hq1, hq2, hb1⟩ := qhat_dP u u1 Q1 R1 q0 r0 hU1 hs0 hr0 HQT.out hqm hU
    go_cut [15] (fun q wx => q = .int .u64 Q1 ∧ w = wx)
    case first =>
      go_wp2
      go_loop [15, 16] (fun q r => ∃ qh rh : Nat, q = .int .u64 qh ∧ r = .int .u64 rh ∧ qh * 4294967295 + rh = u ∧ Q1 ≤ qh ∧ qh ≤ Q1 + 2 ∧ rh < 4294967296) (fun q _ => (intOf q).toNat)
      case atStart => exact ⟨q0, r0, rfl, int_eq (by omega), hs0, hq1, hq2, by omega⟩
      case round =>
        obtain ⟨qh, rh, rfl, rfl, hsum, hlo, hup, hrh⟩ := hrel
        have HS := Lib.hid hsum; clear hsum
        by_cases c1 : 4294967296 ≤ qh
        · have b1 : decide ((4294967296 : Int) ≤ qh) = true := by simp; omega
          by_cases c3 : 4294967296 ≤ rh + 4294967295
          · have b3 : decide ((4294967296 : Int) ≤ (rh : Int) + 4294967295) = true := by simp; omega
            go_wp2
            go_meet
            exact ⟨int_eq (by have := HS.out; have := HQT.out; omega), rfl⟩
          · have b3 : decide ((4294967296 : Int) ≤ (rh : Int) + 4294967295) = false := by simp; omega
            go_wp2
            go_round
            case rel => exact ⟨qh - 1, rh + 4294967295, int_eq (by omega), int_eq (by omega), sum_step HS.out (by omega), by have := HS.out; have := HQT.out; omega, by omega, by omega⟩
            case measure => simp [intOf]; omega
        · have b1 : decide ((4294967296 : Int) ≤ qh) = false := by simp; omega
          by_cases c2 : 4294967296 * rh + u1 < qh * 4294925036
          · have b2 : decide ((4294967296 : Int) * rh + u1 < qh * 4294925036) = true := by simp; omega
            by_cases c3 : 4294967296 ≤ rh + 4294967295
            · have b3 : decide ((4294967296 : Int) ≤ (rh : Int) + 4294967295) = true := by simp; omega
              go_wp2
              go_meet
              exact ⟨int_eq (by have := HS.out; have := HQT.out; omega), rfl⟩
            · have b3 : decide ((4294967296 : Int) ≤ (rh : Int) + 4294967295) = false := by simp; omega
              go_wp2
              go_round
              case rel => exact ⟨qh - 1, rh + 4294967295, int_eq (by omega), int_eq (by omega), sum_step HS.out (by omega), by have := HS.out; have := HQT.out; omega, by omega, by omega⟩
              case measure => simp [intOf]; omega
          · have b2 : decide ((4294967296 : Int) * rh + u1 < qh * 4294925036) = false := by simp; omega
            go_wp2
            go_meet
            exact ⟨int_eq (by have := HS.out; have := HQT.out; omega), rfl⟩
    case rest =>
      obtain ⟨rfl, rfl⟩ := hcut
      have hT1 : Q1 * 18446744073709509356 + R1 = u * 4294967296 + u1 := by rw [Nat.mul_comm]; exact HQT.out
      have hR1 : R1 < 18446744073709509356 := hqm
      have e93 : IntKind.u64.wrap (IntKind.u64.wrap (IntKind.u64.wrap ((u : Int) * 4294967296) + u1) - IntKind.u64.wrap ((Q1 : Int) * 18446744073709509356)) = (R1 : Int) := wrap_chain _ _ _ _ (by omega) (by omega) (by omega)
      generalize hq0' : R1 / 4294967295 = p0 at *
      generalize hr0' : R1 % 4294967295 = r0' at *
      have e94 : ((R1 : Int) / 4294967295) = (p0 : Int) := by rw [← hq0']; omega
      have HT1 := Lib.hid hT1; have HQ0' := Lib.hid hq0'; have HR0' := Lib.hid hr0'; clear hT1 hq0' hr0'
      have hqt2 := Nat.div_add_mod (R1 * 4294967296 + u0) 18446744073709509356
      have hqm2 := Nat.mod_lt (R1 * 4294967296 + u0) (show 0 < 18446744073709509356 by decide)
      generalize hQ2 : (R1 * 4294967296 + u0) / 18446744073709509356 = Q2 at hqt2
      generalize hR2 : (R1 * 4294967296 + u0) % 18446744073709509356 = R2 at hqt2 hqm2
      have HQ2 := Lib.hid hQ2; have HR2 := Lib.hid hR2; have HQT2 := Lib.hid hqt2; clear hQ2 hR2 hqt2
      have hs0' : p0 * 4294967295 + r0' = R1 := by rw [← HQ0'.out, ← HR0'.out, Nat.mul_comm]; exact Nat.div_add_mod _ _
      have hrr0 : r0' < 4294967295 := by rw [← HR0'.out]; exact Nat.mod_lt _ (by decide)
      obtain ⟨hq1', hq2', hb2⟩ := qhat_dP R1 u0 Q2 R2 p0 r0' hU0 hs0' hrr0 HQT2.out hqm2 hqm
      have HS0' := Lib.hid hs0'; clear hs0'
      have e95 : IntKind.u64.wrap ((R1 : Int) - IntKind.u64.wrap ((p0 : Int) * 4294967295)) = (r0' : Int) := by
        rw [← HQ0'.out, ← HR0'.out]; exact wrap_rem R1 4294967295 (Nat.lt_of_lt_of_le hqm (by decide))
      have e96 : IntKind.u64.wrap (p0 : Int) = (p0 : Int) := wrap_lt p0 (Nat.lt_of_le_of_lt (by rw [← HQ0'.out]; exact Nat.div_le_self _ _) (Nat.lt_of_lt_of_le hqm (by decide)))
      have Z1 := Lib.hid h1; have Z2 := Lib.hid h2; have Z3 := Lib.hid hU; have Z4 := Lib.hid hT; have Z5 := Lib.hid hU1; have Z6 := Lib.hid hU0; have Z7 := Lib.hid hqm; have Z8 := Lib.hid hqm2; have Z9 := Lib.hid hb1; have Z10 := Lib.hid hb2; have Z11 := Lib.hid hrr0; have Z12 := Lib.hid hq1'; have Z13 := Lib.hid hq2'
      clear h1 h2 hU hT hU1 hU0 hqm hqm2 hb1 hb2 hrr0 hq1' hq2' hs0 hr0 hq1 hq2 hR1 e10 e11 e12 e13 e14 e15 e16 hle hzb hz
      go_upto_block 2 with fail
      go_cut [18] (fun q wx => q = .int .u64 Q2 ∧ w = wx)
      case first =>
        go_wp2
        go_loop [18, 16] (fun q r => ∃ qh rh : Nat, q = .int .u64 qh ∧ r = .int .u64 rh ∧ qh * 4294967295 + rh = R1 ∧ Q2 ≤ qh ∧ qh ≤ Q2 + 2 ∧ rh < 4294967296) (fun q _ => (intOf q).toNat)
        case atStart => exact ⟨p0, r0', rfl, rfl, HS0'.out, Z12.out, Z13.out, by have := Z11.out; omega⟩
        case round =>
          obtain ⟨qh, rh, rfl, rfl, hsum, hlo, hup, hrh⟩ := hrel
          have hU0 := Z6.out
          have hb2 := Z10.out
          have hqm2 := Z8.out
          have HS := Lib.hid hsum; clear hsum
          by_cases c1 : 4294967296 ≤ qh
          · have b1 : decide ((4294967296 : Int) ≤ qh) = true := by simp; omega
            by_cases c3 : 4294967296 ≤ rh + 4294967295
            · have b3 : decide ((4294967296 : Int) ≤ (rh : Int) + 4294967295) = true := by simp; omega
              go_wp2
              go_meet
              exact ⟨int_eq (by have := HS.out; have := HQT2.out; omega), rfl⟩
            · have b3 : decide ((4294967296 : Int) ≤ (rh : Int) + 4294967295) = false := by simp; omega
              go_wp2
              go_round
              case rel => exact ⟨qh - 1, rh + 4294967295, int_eq (by omega), int_eq (by omega), sum_step HS.out (by omega), by have := HS.out; have := HQT2.out; omega, by omega, by omega⟩
              case measure => simp [intOf]; omega
          · have b1 : decide ((4294967296 : Int) ≤ qh) = false := by simp; omega
            by_cases c2 : 4294967296 * rh + u0 < qh * 4294925036
            · have b2 : decide ((4294967296 : Int) * rh + u0 < qh * 4294925036) = true := by simp; omega
              by_cases c3 : 4294967296 ≤ rh + 4294967295
              · have b3 : decide ((4294967296 : Int) ≤ (rh : Int) + 4294967295) = true := by simp; omega
                go_wp2
                go_meet
                exact ⟨int_eq (by have := HS.out; have := HQT2.out; omega), rfl⟩
              · have b3 : decide ((4294967296 : Int) ≤ (rh : Int) + 4294967295) = false := by simp; omega
                go_wp2
                go_round
                case rel => exact ⟨qh - 1, rh + 4294967295, int_eq (by omega), int_eq (by omega), sum_step HS.out (by omega), by have := HS.out; have := HQT2.out; omega, by omega, by omega⟩
                case measure => simp [intOf]; omega
            · have b2 : decide ((4294967296 : Int) * rh + u0 < qh * 4294925036) = false := by simp; omega
              go_wp2
              go_meet
              exact ⟨int_eq (by have := HS.out; have := HQT2.out; omega), rfl⟩
      case rest =>
        obtain ⟨rfl, rfl⟩ := hcut
        have hT2 : Q2 * 18446744073709509356 + R2 = R1 * 4294967296 + u0 := by rw [Nat.mul_comm]; exact HQT2.out
        have hqm := Z7.out
        have hqm2 := Z8.out
        have e132 : IntKind.u64.wrap (IntKind.u64.wrap (IntKind.u64.wrap ((R1 : Int) * 4294967296) + u0) - IntKind.u64.wrap ((Q2 : Int) * 18446744073709509356)) = (R2 : Int) := wrap_chain _ _ _ _ (by omega) (by omega) (by omega)
        have HT2 := Lib.hid hT2; clear hT2 hqm hqm2
        go_wp2
        go_ret2
        refine ⟨?_, Gr.refl _ _⟩
        obtain ⟨f1, f2⟩ := div_final 4294967296 (hi * 18446744073709551616 + lo) 4611686018427377339 4 18446744073709509356 Q1 Q2 R1 R2 u u1 u0 rfl (by decide) HN.out HT1.out HT2.out Z8.out
        rw [f1, f2]
        show Ending.returned (.tuple #[.int .u64 (IntKind.u64.wrap (IntKind.u64.wrap ((Q1 : Int) * 4294967296) + Q2)), .int .u64 ((R2 : Int) / 4)]) = _
        rw [wrap_join Q1 Q2 Z9.out Z10.out, Int.natCast_ediv]
        rfl


/-! divisor 2305843009213688669 -/
theorem qhat_dQ (v x Q R p r : Nat) (hx : x < 4294967296) (hp : p * 4294967295 + r = v) (hr : r < 4294967295) (hT : 18446744073709509352 * Q + R = v * 4294967296 + x) (hR : R < 18446744073709509352) (hv : v < 18446744073709509352) : Q ≤ p ∧ p ≤ Q + 2 ∧ Q < 4294967296 := by
  refine ⟨?_, ?_, ?_⟩ <;> omega
theorem lz_dQ (w : World) : Calls Tryd.prog 98 #[.int .u64 2305843009213688669] w fun e w' => e = .returned (.int .i64 3) ∧ w = w' := by
  refine (Tryd.bits_LeadingZeros64 2305843009213688669 w (by omega) (by omega)).mono ?_
  rintro e w' ⟨rfl, rfl⟩
  refine ⟨?_, rfl⟩
  have h : Lib.bitLen (Int.toNat 2305843009213688669) = 61 := by decide
  rw [h]; rfl
set_option maxHeartbeats 1000000 in
set_option maxRecDepth 100000 in
theorem div64_dQ (hi lo : Nat) (w : World) (h1 : hi < 2305843009213688669) (h2 : lo < 18446744073709551616) :
    Calls Tryd.prog 92 #[.int .u64 hi, .int .u64 lo, .int .u64 2305843009213688669] w fun e w' => e = .returned (.tuple #[.int .u64 (((hi * 18446744073709551616 + lo) / 2305843009213688669 : Nat) : Int), .int .u64 (((hi * 18446744073709551616 + lo) % 2305843009213688669 : Nat) : Int)]) ∧ Gr w none w' := by
  by_cases hz : hi = 0
  · subst hz
    go_enter Tryd.func92, Tryd.ntmps92
    go_wp2
    go_still (by kernel_rfl)
    go_wp2
    go_ret2
    refine ⟨?_, (Gr.refl w none).drew⟩
    simp
    exact ⟨by rw [IntKind.wrap_u64]; omega, Int.tmod_eq_emod_of_nonneg (by omega)⟩
  · have hle : decide ((2305843009213688669 : Int) ≤ (hi : Int)) = false := by simp; omega
    have hzb : ((hi : Int) == 0) = false := by simp; omega
    have e10 : bits .and .u64 18446744073709509352 4294967295 = 4294925032 := by decide +kernel
    have e11 : bits .or .u64 ((hi : Int) * 8) ((lo : Int) / 2305843009213693952) = ((hi * 8 + lo / 2305843009213693952 : Nat) : Int) := by
      have g1 : ((hi : Int) * 8) = ((hi * 8 : Nat) : Int) := by omega
      have g2 : ((lo : Int) / 2305843009213693952) = ((lo / 2305843009213693952 : Nat) : Int) := by omega
      rw [g1, g2, bits_or_u64_nat _ _ (by omega) (by omega), or_low hi (lo / 2305843009213693952) 3 (by omega)]
    have e12 : IntKind.u64.wrap ((lo : Int) * 8) = ((lo * 8 % 18446744073709551616 : Nat) : Int) := by rw [IntKind.wrap_u64]; omega
    have e13 : ((lo * 8 % 18446744073709551616 : Nat) : Int) / 4294967296 = ((lo * 8 % 18446744073709551616 / 4294967296 : Nat) : Int) := by omega
    have e14 : bits .and .u64 ((lo * 8 % 18446744073709551616 : Nat) : Int) 4294967295 = ((lo * 8 % 4294967296 : Nat) : Int) := by
      rw [show (4294967295 : Int) = ((4294967295 : Nat) : Int) from rfl, bits_and_u64_nat _ _ (by omega) (by omega), show (4294967295 : Nat) = 2 ^ 32 - 1 from rfl, Nat.and_two_pow_sub_one_eq_mod]
      omega
    generalize hu : hi * 8 + lo / 2305843009213693952 = u at *
    generalize ht1 : lo * 8 % 18446744073709551616 = t at *
    generalize hu1 : t / 4294967296 = u1 at *
    generalize hu0 : lo * 8 % 4294967296 = u0 at *
    have HU := Lib.hid hu; have HT := Lib.hid ht1; have HU1 := Lib.hid hu1; have HU0 := Lib.hid hu0; clear hu ht1 hu1 hu0
    have hU : u < 18446744073709509352 := by rw [← HU.out]; omega
    have hT : t < 18446744073709551616 := by rw [← HT.out]; omega
    have hU1 : u1 < 4294967296 := by rw [← HU1.out]; omega
    have hU0 : u0 < 4294967296 := by rw [← HU0.out]; omega
    have hN : (hi * 18446744073709551616 + lo) * 8 = u * 18446744073709551616 + u1 * 4294967296 + u0 := by rw [← HU.out, ← HU1.out, ← HT.out, ← HU0.out]; omega
    have HN := Lib.hid hN; clear hN
    have e15 : ((u : Int) / 4294967295) = ((u / 4294967295 : Nat) : Int) := by omega
    have e16 : IntKind.u64.wrap ((u : Int) - IntKind.u64.wrap (((u / 4294967295 : Nat) : Int) * 4294967295)) = ((u % 4294967295 : Nat) : Int) := wrap_rem u 4294967295 (by omega)
    generalize hq0 : u / 4294967295 = q0 at *
    generalize hr0 : u % 4294967295 = r0 at *
    have HQ0 := Lib.hid hq0; have HR0 := Lib.hid hr0; clear hq0 hr0
    go_enter Tryd.func92, Tryd.ntmps92
    go_upto_block 0 with (go_at_call 98; refine (lz_dQ _).mono ?_; rintro r w' ⟨rfl, rfl⟩)
    have hqt := Nat.div_add_mod (u * 4294967296 + u1) 18446744073709509352
    have hqm := Nat.mod_lt (u * 4294967296 + u1) (show 0 < 18446744073709509352 by decide)
    generalize hQ1 : (u * 4294967296 + u1) / 18446744073709509352 = Q1 at *
    generalize hR1 : (u * 4294967296 + u1) % 18446744073709509352 = R1 at *
    have HQ1 := Lib.hid hQ1; have HR1 := Lib.hid hR1; have HQT := Lib.hid hqt; clear hQ1 hR1 hqt
    have hs0 : q0 * 4294967295 + r0 = u := by rw [← HQ0.out, ← HR0.out, Nat.mul_comm]; exact Nat.div_add_mod _ _
    have hr0 : r0 < 4294967295 := by rw [← HR0.out]; exact Nat.mod_lt _ (by decide)
    obtain ⟨hq1, hq2, hb1⟩ := qhat_dQ u u1 Q1 R1 q0 r0 hU1 hs0 hr0 HQT.out hqm hU
    go_cut [15] (fun q wx => q = .int .u64 Q1 ∧ w = wx)
    case first =>
      go_wp2
      go_loop [15, 16] (fun q r => ∃ qh rh : Nat, q = .int .u64 qh ∧ r = .int .u64 rh ∧ qh * 4294967295 + rh = u ∧ Q1 ≤ qh ∧ qh ≤ Q1 + 2 ∧ rh < 4294967296) (fun q _ => (intOf q).toNat)
      case atStart => exact ⟨q0, r0, rfl, int_eq (by omega), hs0, hq1, hq2, by omega⟩
      case round =>
        obtain ⟨qh, rh, rfl, rfl, hsum, hlo, hup, hrh⟩ := hrel
        have HS := Lib.hid hsum; clear hsum
        by_cases c1 : 4294967296 ≤ qh
        · have b1 : decide ((4294967296 : Int) ≤ qh) = true := by simp; omega
          by_cases c3 : 4294967296 ≤ rh + 4294967295
          · have b3 : decide ((4294967296 : Int) ≤ (rh : Int) + 4294967295) = true := by simp; omega
            go_wp2
            go_meet
            exact ⟨int_eq (by have := HS.out; have := HQT.out; omega), rfl⟩
          · have b3 : decide ((4294967296 : Int) ≤ (rh : Int) + 4294967295) = false := by simp; omega
            go_wp2
            go_round
            case rel => exact ⟨qh - 1, rh + 4294967295, int_eq (by omega), int_eq (by omega), sum_step HS.out (by omega), by have := HS.out; have := HQT.out; omega, by omega, by omega⟩
            case measure => simp [intOf]; omega
        · have b1 : decide ((4294967296 : Int) ≤ qh) = false := by simp; omega
          by_cases c2 : 4294967296 * rh + u1 < qh * 4294925032
          · have b2 : decide ((4294967296 : Int) * rh + u1 < qh * 4294925032) = true := by simp; omega
            by_cases c3 : 4294967296 ≤ rh + 4294967295
            · have b3 : decide ((4294967296 : Int) ≤ (rh : Int) + 4294967295) = true := by simp; omega
              go_wp2
              go_meet
              exact ⟨int_eq (by have := HS.out; have := HQT.out; omega), rfl⟩
            · have b3 : decide ((4294967296 : Int) ≤ (rh : Int) + 4294967295) = false := by simp; omega
              go_wp2
              go_round
              case rel => exact ⟨qh - 1, rh + 4294967295, int_eq (by omega), int_eq (by omega), sum_step HS.out (by omega), by have := HS.out; have := HQT.out; omega, by omega, by omega⟩
              case measure => simp [intOf]; omega
          · have b2 : decide ((4294967296 : Int) * rh + u1 < qh * 4294925032) = false := by simp; omega
            go_wp2
            go_meet
            exact ⟨int_eq (by have := HS.out; have := HQT.out; omega), rfl⟩
    case rest =>
      obtain ⟨rfl, rfl⟩ := hcut
      have hT1 : Q1 * 18446744073709509352 + R1 = u * 4294967296 + u1 := by rw [Nat.mul_comm]; exact HQT.out
      have hR1 : R1 < 18446744073709509352 := hqm
      have e93 : IntKind.u64.wrap (IntKind.u64.wrap (IntKind.u64.wrap ((u : Int) * 4294967296) + u1) - IntKind.u64.wrap ((Q1 : Int) * 18446744073709509352)) = (R1 : Int) := wrap_chain _ _ _ _ (by omega) (by omega) (by omega)
      generalize hq0' : R1 / 4294967295 = p0 at *
      generalize hr0' : R1 % 4294967295 = r0' at *
      have e94 : ((R1 : Int) / 4294967295) = (p0 : Int) := by rw [← hq0']; omega
      have HT1 := Lib.hid hT1; have HQ0' := Lib.hid hq0'; have HR0' := Lib.hid hr0'; clear hT1 hq0' hr0'
      have hqt2 := Nat.div_add_mod (R1 * 4294967296 + u0) 18446744073709509352
      have hqm2 := Nat.mod_lt (R1 * 4294967296 + u0) (show 0 < 18446744073709509352 by decide)
      generalize hQ2 : (R1 * 4294967296 + u0) / 18446744073709509352 = Q2 at hqt2
      generalize hR2 : (R1 * 4294967296 + u0) % 18446744073709509352 = R2 at hqt2 hqm2
      have HQ2 := Lib.hid hQ2; have HR2 := Lib.hid hR2; have HQT2 := Lib.hid hqt2; clear hQ2 hR2 hqt2
      have hs0' : p0 * 4294967295 + r0' = R1 := by rw [← HQ0'.out, ← HR0'.out, Nat.mul_comm]; exact Nat.div_add_mod _ _
      have hrr0 : r0' < 4294967295 := by rw [← HR0'.out]; exact Nat.mod_lt _ (by decide)
      obtain ⟨hq1', hq2', hb2⟩ := qhat_dQ R1 u0 Q2 R2 p0 r0' hU0 hs0' hrr0 HQT2.out hqm2 hqm
      have HS0' := Lib.hid hs0'; clear hs0'
      have e95 : IntKind.u64.wrap ((R1 : Int) - IntKind.u64.wrap ((p0 : Int) * 4294967295)) = (r0' : Int) := by
        rw [← HQ0'.out, ← HR0'.out]; exact wrap_rem R1 4294967295 (Nat.lt_of_lt_of_le hqm (by decide))
      have e96 : IntKind.u64.wrap (p0 : Int) = (p0 : Int) := wrap_lt p0 (Nat.lt_of_le_of_lt (by rw [← HQ0'.out]; exact Nat.div_le_self _ _) (Nat.lt_of_lt_of_le hqm (by decide)))
      have Z1 := Lib.hid h1; have Z2 := Lib.hid h2; have Z3 := Lib.hid hU; have Z4 := Lib.hid hT; have Z5 := Lib.hid hU1; have Z6 := Lib.hid hU0; have Z7 := Lib.hid hqm; have Z8 := Lib.hid hqm2; have Z9 := Lib.hid hb1; have Z10 := Lib.hid hb2; have Z11 := Lib.hid hrr0; have Z12 := Lib.hid hq1'; have Z13 := Lib.hid hq2'
      clear h1 h2 hU hT hU1 hU0 hqm hqm2 hb1 hb2 hrr0 hq1' hq2' hs0 hr0 hq1 hq2 hR1 e10 e11 e12 e13 e14 e15 e16 hle hzb hz
      go_upto_block 2 with fail
      go_cut [18] (fun q wx => q = .int .u64 Q2 ∧ w = wx)
      case first =>
        go_wp2
        go_loop [18, 16] (fun q r => ∃ qh rh : Nat, q = .int .u64 qh ∧ r = .int .u64 rh ∧ qh * 4294967295 + rh = R1 ∧ Q2 ≤ qh ∧ qh ≤ Q2 + 2 ∧ rh < 4294967296) (fun q _ => (intOf q).toNat)
        case atStart => exact ⟨p0, r0', rfl, rfl, HS0'.out, Z12.out, Z13.out, by have := Z11.out; omega⟩
        case round =>
          obtain ⟨qh, rh, rfl, rfl, hsum, hlo, hup, hrh⟩ := hrel
          have hU0 := Z6.out
          have hb2 := Z10.out
          have hqm2 := Z8.out
          have HS := Lib.hid hsum; clear hsum
          by_cases c1 : 4294967296 ≤ qh
          · have b1 : decide ((4294967296 : Int) ≤ qh) = true := by simp; omega
            by_cases c3 : 4294967296 ≤ rh + 4294967295
            · have b3 : decide ((4294967296 : Int) ≤ (rh : Int) + 4294967295) = true := by simp; omega
              go_wp2
              go_meet
              exact ⟨int_eq (by have := HS.out; have := HQT2.out; omega), rfl⟩
            · have b3 : decide ((4294967296 : Int) ≤ (rh : Int) + 4294967295) = false := by simp; omega
              go_wp2
              go_round
              case rel => exact ⟨qh - 1, rh + 4294967295, int_eq (by omega), int_eq (by omega), sum_step HS.out (by omega), by have := HS.out; have := HQT2.out; omega, by omega, by omega⟩
              case measure => simp [intOf]; omega
          · have b1 : decide ((4294967296 : Int) ≤ qh) = false := by simp; omega
            by_cases c2 : 4294967296 * rh + u0 < qh * 4294925032
            · have b2 : decide ((4294967296 : Int) * rh + u0 < qh * 4294925032) = true := by simp; omega
              by_cases c3 : 4294967296 ≤ rh + 4294967295
              · have b3 : decide ((4294967296 : Int) ≤ (rh : Int) + 4294967295) = true := by simp; omega
                go_wp2
                go_meet
                exact ⟨int_eq (by have := HS.out; have := HQT2.out; omega), rfl⟩
              · have b3 : decide ((4294967296 : Int) ≤ (rh : Int) + 4294967295) = false := by simp; omega
                go_wp2
                go_round
                case rel => exact ⟨qh - 1, rh + 4294967295, int_eq (by omega), int_eq (by omega), sum_step HS.out (by omega), by have := HS.out; have := HQT2.out; omega, by omega, by omega⟩
                case measure => simp [intOf]; omega
            · have b2 : decide ((4294967296 : Int) * rh + u0 < qh * 4294925032) = false := by simp; omega
              go_wp2
              go_meet
              exact ⟨int_eq (by have := HS.out; have := HQT2.out; omega), rfl⟩
      case rest =>
        obtain ⟨rfl, rfl⟩ := hcut
        have hT2 : Q2 * 18446744073709509352 + R2 = R1 * 4294967296 + u0 := by rw [Nat.mul_comm]; exact HQT2.out
        have hqm := Z7.out
        have hqm2 := Z8.out
        have e132 : IntKind.u64.wrap (IntKind.u64.wrap (IntKind.u64.wrap ((R1 : Int) * 4294967296) + u0) - IntKind.u64.wrap ((Q2 : Int) * 18446744073709509352)) = (R2 : Int) := wrap_chain _ _ _ _ (by omega) (by omega) (by omega)
        have HT2 := Lib.hid hT2; clear hT2 hqm hqm2
        go_wp2
        go_ret2
        refine ⟨?_, Gr.refl _ _⟩
        obtain ⟨f1, f2⟩ := div_final 4294967296 (hi * 18446744073709551616 + lo) 2305843009213688669 8 18446744073709509352 Q1 Q2 R1 R2 u u1 u0 rfl (by decide) HN.out HT1.out HT2.out Z8.out
        rw [f1, f2]
        show Ending.returned (.tuple #[.int .u64 (IntKind.u64.wrap (IntKind.u64.wrap ((Q1 : Int) * 4294967296) + Q2)), .int .u64 ((R2 : Int) / 8)]) = _
        rw [wrap_join Q1 Q2 Z9.out Z10.out, Int.natCast_ediv]
        rfl


/-! divisor 2305843009213688668 -/
theorem qhat_dR (v x Q R p r : Nat) (hx : x < 4294967296) (hp : p * 4294967295 + r = v) (hr : r < 4294967295) (hT : 18446744073709509344 * Q + R = v * 4294967296 + x) (hR : R < 18446744073709509344) (hv : v < 18446744073709509344) : Q ≤ p ∧ p ≤ Q + 2 ∧ Q < 4294967296 := by
  refine ⟨?_, ?_, ?_⟩ <;> omega
theorem lz_dR (w : World) : Calls Tryd.prog 98 #[.int .u64 2305843009213688668] w fun e w' => e = .returned (.int .i64 3) ∧ w = w' := by
  refine (Tryd.bits_LeadingZeros64 2305843009213688668 w (by omega) (by omega)).mono ?_
  rintro e w' ⟨rfl, rfl⟩
  refine ⟨?_, rfl⟩
  have h : Lib.bitLen (Int.toNat 2305843009213688668) = 61 := by decide
  rw [h]; rfl
set_option maxHeartbeats 1000000 in
set_option maxRecDepth 100000 in
theorem div64_dR (hi lo : Nat) (w : World) (h1 : hi < 2305843009213688668) (h2 : lo < 18446744073709551616) :
    Calls Tryd.prog 92 #[.int .u64 hi, .int .u64 lo, .int .u64 2305843009213688668] w fun e w' => e = .returned (.tuple #[.int .u64 (((hi * 18446744073709551616 + lo) / 2305843009213688668 : Nat) : Int), .int .u64 (((hi * 18446744073709551616 + lo) % 2305843009213688668 : Nat) : Int)]) ∧ Gr w none w' := by
  by_cases hz : hi = 0
  · subst hz
    go_enter Tryd.func92, Tryd.ntmps92
    go_wp2
    go_still (by kernel_rfl)
    go_wp2
    go_ret2
    refine ⟨?_, (Gr.refl w none).drew⟩
    simp
    exact ⟨by rw [IntKind.wrap_u64]; omega, Int.tmod_eq_emod_of_nonneg (by omega)⟩
  · have hle : decide ((2305843009213688668 : Int) ≤ (hi : Int)) = false := by simp; omega
    have hzb : ((hi : Int) == 0) = false := by simp; omega
    have e10 : bits .and .u64 18446744073709509344 4294967295 = 4294925024 := by decide +kernel
    have e11 : bits .or .u64 ((hi : Int) * 8) ((lo : Int) / 2305843009213693952) = ((hi * 8 + lo / 2305843009213693952 : Nat) : Int) := by
      have g1 : ((hi : Int) * 8) = ((hi * 8 : Nat) : Int) := by omega
      have g2 : ((lo : Int) / 2305843009213693952) = ((lo / 2305843009213693952 : Nat) : Int) := by omega
      rw [g1, g2, bits_or_u64_nat _ _ (by omega) (by omega), or_low hi (lo / 2305843009213693952) 3 (by omega)]
    have e12 : IntKind.u64.wrap ((lo : Int) * 8) = ((lo * 8 % 18446744073709551616 : Nat) : Int) := by rw [IntKind.wrap_u64]; omega
    have e13 : ((lo * 8 % 18446744073709551616 : Nat) : Int) / 4294967296 = ((lo * 8 % 18446744073709551616 / 4294967296 : Nat) : Int) := by omega
    have e14 : bits .and .u64 ((lo * 8 % 18446744073709551616 : Nat) : Int) 4294967295 = ((lo * 8 % 4294967296 : Nat) : Int) := by
      rw [show (4294967295 : Int) = ((4294967295 : Nat) : Int) from rfl, bits_and_u64_nat _ _ (by omega) (by omega), show (4294967295 : Nat) = 2 ^ 32 - 1 from rfl, Nat.and_two_pow_sub_one_eq_mod]
      omega
    generalize hu : hi * 8 + lo / 2305843009213693952 = u at *
    generalize ht1 : lo * 8 % 18446744073709551616 = t at *
    generalize hu1 : t / 4294967296 = u1 at *
    generalize hu0 : lo * 8 % 4294967296 = u0 at *
    have HU := Lib.hid hu; have HT := Lib.hid ht1; have HU1 := Lib.hid hu1; have HU0 := Lib.hid hu0; clear hu ht1 hu1 hu0
    have hU : u < 18446744073709509344 := by rw [← HU.out]; omega
    have hT : t < 18446744073709551616 := by rw [← HT.out]; omega
    have hU1 : u1 < 4294967296 := by rw [← HU1.out]; omega
    have hU0 : u0 < 4294967296 := by rw [← HU0.out]; omega
    have hN : (hi * 18446744073709551616 + lo) * 8 = u * 18446744073709551616 + u1 * 4294967296 + u0 := by rw [← HU.out, ← HU1.out, ← HT.out, ← HU0.out]; omega
    have HN := Lib.hid hN; clear hN
    have e15 : ((u : Int) / 4294967295) = ((u / 4294967295 : Nat) : Int) := by omega
    have e16 : IntKind.u64.wrap ((u : Int) - IntKind.u64.wrap (((u / 4294967295 : Nat) : Int) * 4294967295)) = ((u % 4294967295 : Nat) : Int) := wrap_rem u 4294967295 (by omega)
    generalize hq0 : u / 4294967295 = q0 at *
    generalize hr0 : u % 4294967295 = r0 at *
    have HQ0 := Lib.hid hq0; have HR0 := Lib.hid hr0; clear hq0 hr0
    go_enter Tryd.func92, Tryd.ntmps92
    go_upto_block 0 with (go_at_call 98; refine (lz_dR _).mono ?_; rintro r w' ⟨rfl, rfl⟩)
    have hqt := Nat.div_add_mod (u * 4294967296 + u1) 18446744073709509344
    have hqm := Nat.mod_lt (u * 4294967296 + u1) (show 0 < 18446744073709509344 by decide)
    generalize hQ1 : (u * 4294967296 + u1) / 18446744073709509344 = Q1 at *
    generalize hR1 : (u * 4294967296 + u1) % 18446744073709509344 = R1 at *
    have HQ1 := Lib.hid hQ1; have HR1 := Lib.hid hR1; have HQT := Lib.hid hqt; clear hQ1 hR1 hqt
    have hs0 : q0 * 4294967295 + r0 = u := by rw [← HQ0.out, ← HR0.out, Nat.mul_comm]; exact Nat.div_add_mod _ _
    have hr0 : r0 < 4294967295 := by rw [← HR0.out]; exact Nat.mod_lt _ (by decide)
    obtain ⟨hq1, hq2, hb1⟩ := qhat_dR u u1 Q1 R1 q0 r0 hU1 hs0 hr0 HQT.out hqm hU
    go_cut [15] (fun q wx => q = .int .u64 Q1 ∧ w = wx)
    case first =>
      go_wp2
      go_loop [15, 16] (fun q r => ∃ qh rh : Nat, q = .int .u64 qh ∧ r = .int .u64 rh ∧ qh * 4294967295 + rh = u ∧ Q1 ≤ qh ∧ qh ≤ Q1 + 2 ∧ rh < 4294967296) (fun q _ => (intOf q).toNat)
      case atStart => exact ⟨q0, r0, rfl, int_eq (by omega), hs0, hq1, hq2, by omega⟩
      case round =>
        obtain ⟨qh, rh, rfl, rfl, hsum, hlo, hup, hrh⟩ := hrel
        have HS := Lib.hid hsum; clear hsum
        by_cases c1 : 4294967296 ≤ qh
        · have b1 : decide ((4294967296 : Int) ≤ qh) = true := by simp; omega
          by_cases c3 : 4294967296 ≤ rh + 4294967295
          · have b3 : decide ((4294967296 : Int) ≤ (rh : Int) + 4294967295) = true := by simp; omega
            go_wp2
            go_meet
            exact ⟨int_eq (by have := HS.out; have := HQT.out; omega), rfl⟩
          · have b3 : decide ((4294967296 : Int) ≤ (rh : Int) + 4294967295) = false := by simp; omega
            go_wp2
            go_round
            case rel => exact ⟨qh - 1, rh + 4294967295, int_eq (by omega), int_eq (by omega), sum_step HS.out (by omega), by have := HS.out; have := HQT.out; omega, by omega, by omega⟩
            case measure => simp [intOf]; omega
        · have b1 : decide ((4294967296 : Int) ≤ qh) = false := by simp; omega
          by_cases c2 : 4294967296 * rh + u1 < qh * 4294925024
          · have b2 : decide ((4294967296 : Int) * rh + u1 < qh * 4294925024) = true := by simp; omega
            by_cases c3 : 4294967296 ≤ rh + 4294967295
            · have b3 : decide ((4294967296 : Int) ≤ (rh : Int) + 4294967295) = true := by simp; omega
              go_wp2
              go_meet
              exact ⟨int_eq (by have := HS.out; have := HQT.out; omega), rfl⟩
            · have b3 : decide ((4294967296 : Int) ≤ (rh : Int) + 4294967295) = false := by simp; omega
              go_wp2
              go_round
              case rel => exact ⟨qh - 1, rh + 4294967295, int_eq (by omega), int_eq (by omega), sum_step HS.out (by omega), by have := HS.out; have := HQT.out; omega, by omega, by omega⟩
              case measure => simp [intOf]; omega
          · have b2 : decide ((4294967296 : Int) * rh + u1 < qh * 4294925024) = false := by simp; omega
            go_wp2
            go_meet
            exact ⟨int_eq (by have := HS.out; have := HQT.out; omega), rfl⟩
    case rest =>
      obtain ⟨rfl, rfl⟩ := hcut
      have hT1 : Q1 * 18446744073709509344 + R1 = u * 4294967296 + u1 := by rw [Nat.mul_comm]; exact HQT.out
      have hR1 : R1 < 18446744073709509344 := hqm
      have e93 : IntKind.u64.wrap (IntKind.u64.wrap (IntKind.u64.wrap ((u : Int) * 4294967296) + u1) - IntKind.u64.wrap ((Q1 : Int) * 18446744073709509344)) = (R1 : Int) := wrap_chain _ _ _ _ (by omega) (by omega) (by omega)
      generalize hq0' : R1 / 4294967295 = p0 at *
      generalize hr0' : R1 % 4294967295 = r0' at *
      have e94 : ((R1 : Int) / 4294967295) = (p0 : Int) := by rw [← hq0']; omega
      have HT1 := Lib.hid hT1; have HQ0' := Lib.hid hq0'; have HR0' := Lib.hid hr0'; clear hT1 hq0' hr0'
      have hqt2 := Nat.div_add_mod (R1 * 4294967296 + u0) 18446744073709509344
      have hqm2 := Nat.mod_lt (R1 * 4294967296 + u0) (show 0 < 18446744073709509344 by decide)
      generalize hQ2 : (R1 * 4294967296 + u0) / 18446744073709509344 = Q2 at hqt2
      generalize hR2 : (R1 * 4294967296 + u0) % 18446744073709509344 = R2 at hqt2 hqm2
      have HQ2 := Lib.hid hQ2; have HR2 := Lib.hid hR2; have HQT2 := Lib.hid hqt2; clear hQ2 hR2 hqt2
      have hs0' : p0 * 4294967295 + r0' = R1 := by rw [← HQ0'.out, ← HR0'.out, Nat.mul_comm]; exact Nat.div_add_mod _ _
      have hrr0 : r0' < 4294967295 := by rw [← HR0'.out]; exact Nat.mod_lt _ (by decide)
      obtain ⟨hq1', hq2', hb2⟩ := qhat_dR R1 u0 Q2 R2 p0 r0' hU0 hs0' hrr0 HQT2.out hqm2 hqm
      have HS0' := Lib.hid hs0'; clear hs0'
      have e95 : IntKind.u64.wrap ((R1 : Int) - IntKind.u64.wrap ((p0 : Int) * 4294967295)) = (r0' : Int) := by
        rw [← HQ0'.out, ← HR0'.out]; exact wrap_rem R1 4294967295 (Nat.lt_of_lt_of_le hqm (by decide))
      have e96 : IntKind.u64.wrap (p0 : Int) = (p0 : Int) := wrap_lt p0 (Nat.lt_of_le_of_lt (by rw [← HQ0'.out]; exact Nat.div_le_self _ _) (Nat.lt_of_lt_of_le hqm (by decide)))
      have Z1 := Lib.hid h1; have Z2 := Lib.hid h2; have Z3 := Lib.hid hU; have Z4 := Lib.hid hT; have Z5 := Lib.hid hU1; have Z6 := Lib.hid hU0; have Z7 := Lib.hid hqm; have Z8 := Lib.hid hqm2; have Z9 := Lib.hid hb1; have Z10 := Lib.hid hb2; have Z11 := Lib.hid hrr0; have Z12 := Lib.hid hq1'; have Z13 := Lib.hid hq2'
      clear h1 h2 hU hT hU1 hU0 hqm hqm2 hb1 hb2 hrr0 hq1' hq2' hs0 hr0 hq1 hq2 hR1 e10 e11 e12 e13 e14 e15 e16 hle hzb hz
      go_upto_block 2 with fail
      go_cut [18] (fun q wx => q = .int .u64 Q2 ∧ w = wx)
      case first =>
        go_wp2
        go_loop [18, 16] (fun q r => ∃ qh rh : Nat, q = .int .u64 qh ∧ r = .int .u64 rh ∧ qh * 4294967295 + rh = R1 ∧ Q2 ≤ qh ∧ qh ≤ Q2 + 2 ∧ rh < 4294967296) (fun q _ => (intOf q).toNat)
        case atStart => exact ⟨p0, r0', rfl, rfl, HS0'.out, Z12.out, Z13.out, by have := Z11.out; omega⟩
        case round =>
          obtain ⟨qh, rh, rfl, rfl, hsum, hlo, hup, hrh⟩ := hrel
          have hU0 := Z6.out
          have hb2 := Z10.out
          have hqm2 := Z8.out
          have HS := Lib.hid hsum; clear hsum
          by_cases c1 : 4294967296 ≤ qh
          · have b1 : decide ((4294967296 : Int) ≤ qh) = true := by simp; omega
            by_cases c3 : 4294967296 ≤ rh + 4294967295
            · have b3 : decide ((4294967296 : Int) ≤ (rh : Int) + 4294967295) = true := by simp; omega
              go_wp2
              go_meet
              exact ⟨int_eq (by have := HS.out; have := HQT2.out; omega), rfl⟩
            · have b3 : decide ((4294967296 : Int) ≤ (rh : Int) + 4294967295) = false := by simp; omega
              go_wp2
              go_round
              case rel => exact ⟨qh - 1, rh + 4294967295, int_eq (by omega), int_eq (by omega), sum_step HS.out (by omega), by have := HS.out; have := HQT2.out; omega, by omega, by omega⟩
              case measure => simp [intOf]; omega
          · have b1 : decide ((4294967296 : Int) ≤ qh) = false := by simp; omega
            by_cases c2 : 4294967296 * rh + u0 < qh * 4294925024
            · have b2 : decide ((4294967296 : Int) * rh + u0 < qh * 4294925024) = true := by simp; omega
              by_cases c3 : 4294967296 ≤ rh + 4294967295
              · have b3 : decide ((4294967296 : Int) ≤ (rh : Int) + 4294967295) = true := by simp; omega
                go_wp2
                go_meet
                exact ⟨int_eq (by have := HS.out; have := HQT2.out; omega), rfl⟩
              · have b3 : decide ((4294967296 : Int) ≤ (rh : Int) + 4294967295) = false := by simp; omega
                go_wp2
                go_round
                case rel => exact ⟨qh - 1, rh + 4294967295, int_eq (by omega), int_eq (by omega), sum_step HS.out (by omega), by have := HS.out; have := HQT2.out; omega, by omega, by omega⟩
                case measure => simp [intOf]; omega
            · have b2 : decide ((4294967296 : Int) * rh + u0 < qh * 4294925024) = false := by simp; omega
              go_wp2
              go_meet
              exact ⟨int_eq (by have := HS.out; have := HQT2.out; omega), rfl⟩
      case rest =>
        obtain ⟨rfl, rfl⟩ := hcut
        have hT2 : Q2 * 18446744073709509344 + R2 = R1 * 4294967296 + u0 := by rw [Nat.mul_comm]; exact HQT2.out
        have hqm := Z7.out
        have hqm2 := Z8.out
        have e132 : IntKind.u64.wrap (IntKind.u64.wrap (IntKind.u64.wrap ((R1 : Int) * 4294967296) + u0) - IntKind.u64.wrap ((Q2 : Int) * 18446744073709509344)) = (R2 : Int) := wrap_chain _ _ _ _ (by omega) (by omega) (by omega)
        have HT2 := Lib.hid hT2; clear hT2 hqm hqm2
        go_wp2
        go_ret2
        refine ⟨?_, Gr.refl _ _⟩
        obtain ⟨f1, f2⟩ := div_final 4294967296 (hi * 18446744073709551616 + lo) 2305843009213688668 8 18446744073709509344 Q1 Q2 R1 R2 u u1 u0 rfl (by decide) HN.out HT1.out HT2.out Z8.out
        rw [f1, f2]
        show Ending.returned (.tuple #[.int .u64 (IntKind.u64.wrap (IntKind.u64.wrap ((Q1 : Int) * 4294967296) + Q2)), .int .u64 ((R2 : Int) / 8)]) = _
        rw [wrap_join Q1 Q2 Z9.out Z10.out, Int.natCast_ediv]
        rfl

end Go.Proofs.YtjibmhmaoegcnaaDoor
