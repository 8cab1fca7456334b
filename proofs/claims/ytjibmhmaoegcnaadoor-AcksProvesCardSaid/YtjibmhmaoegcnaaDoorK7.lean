/- Parts of a proof, joined by program: AckList, Message, AckCheck, AckMake, AckDec, AckDec2. -/
import Derived.Test.YtjibmhmaoegcnaaDoorK6
import Derived.Deep.RegionLaw
import Derived.Deep.MidRow
import Derived.Lib.BufferWrite
namespace Go.Proofs.YtjibmhmaoegcnaaDoor
open Go.RowKit Go.Shelf
set_option linter.unusedVariables false
attribute [local go_sem ↓] Go.wp_at_zero Go.wp_at_succ
/-- A value is appended, in a plain region. -/
theorem wl_value {ops : Array Oper} {rest : List Oper} {o : Oper} {a : Act} {Q : Exit → Act → World → Prop} (hgd : o.guard = none) (s x : Operand)
    (ho : o.op = .call { callee := .builtin .append, args := #[s, x], argTypes := #[49, 49] }) (B : Nat) (v : Value) (css : List (List Value)) (W : World) (k n : Int) (t : ByteArray) (p : Option Addr) (m c : Nat)
    (hs : a.eval s = v) (hown : OwnV W B v css) (hB : B ≤ W.heap.size) (hlen : css.length ≤ 1500000) (H : Nat) (hA : At W H 0 [.int .i64 k, .int .i64 n, .string t, .slice p m c]) (hx : a.eval x = .slice (some ⟨H, 0, none⟩) 1 1)
    (h : ∀ g cap w1, OwnV w1 B (.slice (some ⟨g, 0, none⟩) (css.length + 1) cap) (css ++ [[.int .i64 k, .int .i64 n, .string t, .slice p m c]]) → Gr W v.ownBlock w1 → (v.ownBlock = some g ∨ W.heap.size = g) → g < w1.heap.size → wpList Tryd.prog ops Q rest (a.put o.dst (.slice (some ⟨g, 0, none⟩) (css.length + 1) cap)) w1) :
    wpList Tryd.prog ops Q (o :: rest) a W := by
  obtain ⟨i0, hi, hz0, hz1, hz2⟩ := info_value
  refine wpList_append_lies _ hgd s x 49 ho B 51 i0 _ 4 56 Tryd.underlying49 hi hz0 hz1 hz2 rfl (by decide) v css.length css.flatten hs hown ⟨H, 0, none⟩ 1 1 [.int .i64 k, .int .i64 n, .string t, .slice p m c] hx rfl ?_ ?_ (by decide) (by unfold maxLen; omega) (by omega) hB W.heap.size rfl ?_
  · intro j u hj
    obtain ⟨hl, e⟩ := List.getElem?_eq_some_iff.1 hj
    have := hA j hl
    rw [Addr.add_lit, ← e]
    exact this
  · intro u hu
    simp only [List.mem_cons, List.not_mem_nil, or_false] at hu
    rcases hu with rfl | rfl | rfl | rfl <;> rfl
  intro g cap w1 hown1 hgrow hat hlt
  refine h g cap w1 ?_ hgrow (hat.imp_right Eq.symm) hlt
  show w1.ownsRow _ _ _ _ _ _
  rw [List.length_append, List.length_singleton, List.flatten_append, List.flatten_singleton]
  exact hown1
/-- The list that is being built: the acknowledgement, the value and its row. -/
structure LV (w : World) (a : Ack) (ls : List Leaf) (v : Value) (w' : World) : Prop where
  gr : Gr w none w'
  ack : Blk w' w.heap.size 27 a.cells
  val : Blk w' (w.heap.size + 1) 51 [.int .i64 3, .int .i64 0, .string ⟨#[]⟩, v]
  own : OwnV w' (w.heap.size + 2) v (ls.map Leaf.cells)
  form : ∃ p m c, v = .slice p m c
theorem LV.drew {w w' : World} {a : Ack} {ls : List Leaf} {v : Value} (h : LV w a ls v w') : LV w a ls v w'.drew := ⟨h.gr.drew, h.ack, h.val, h.own, h.form⟩
theorem LV.row {w w' : World} {a : Ack} {ls : List Leaf} {v : Value} (h : LV w a ls v w') {b : Nat} (hb : b < w.heap.size + 2) : some b ≠ v.ownBlock := fun e => by
  have := own_ge h.own b e.symm; omega
theorem LV.step {w wr W2 w6 : World} {a : Ack} {ls : List Leaf} {v : Value} {x : Leaf} {g n cap : Nat} (h : LV w a ls v wr) (hW2 : Gr wr none W2) (hgrow : Gr W2 v.ownBlock w6)
    (hown6 : OwnV w6 (w.heap.size + 2) (.slice (some ⟨g, 0, none⟩) n cap) (ls.map Leaf.cells ++ [x.cells])) : LV w a (ls ++ [x]) (.slice (some ⟨g, 0, none⟩) n cap) (w6.setCell ⟨w.heap.size + 1, 3, none⟩ (.slice (some ⟨g, 0, none⟩) n cap)) := by
  have hg : w.heap.size + 2 ≤ g := own_ge hown6 g rfl
  have hXw : w.heap.size ≤ w.heap.size + 1 := by omega
  have hGX : Gr w6 (some (w.heap.size + 1)) (w6.setCell ⟨w.heap.size + 1, 3, none⟩ (.slice (some ⟨g, 0, none⟩) n cap)) := (Gr.refl _ _).setCell (.inr rfl) _
  refine ⟨((h.gr.trans hW2).on hgrow fun b e => .inl (by have := own_ge h.own b e; omega)).setCell (.inl hXw) _, ((h.ack.grown hW2 (by simp)).grown hgrow (h.row (by omega))).other (by omega) _, ((h.val.grown hW2 (by simp)).grown hgrow (h.row (by omega))).set 3 _, ?_, ⟨_, _, _, rfl⟩⟩
  rw [List.map_append, List.map_singleton]
  exact World.ownsRow.kept hown6 hGX (.inr (by simp [Value.ownBlock]; omega))
/-- The leaves of an acknowledgement, and further numbers. -/
def Ack.leaves (a : Ack) (more : List Int) : List Leaf := .int a.f :: .int a.d :: .int a.s :: .int a.u :: .text a.ch :: more.map Leaf.int
def Ack.ints (a : Ack) : Prop := (Leaf.int a.f).ok ∧ (Leaf.int a.d).ok ∧ (Leaf.int a.s).ok ∧ (Leaf.int a.u).ok ∧ (Leaf.int a.r).ok ∧ (Leaf.int a.g).ok
set_option maxHeartbeats 1000000 in
set_option maxRecDepth 100000 in
theorem ackList_any (a : Ack) (p : Option Addr) (more : List Int) (cap : Nat) (w : World) (ha : a.ch.length = 32) (hi : a.ints) (hm : more.length ≤ 10) (hok : ∀ x ∈ more, (Leaf.int x).ok)
    (hp : more = [] ∨ ∃ b, p = some ⟨b, 0, none⟩ ∧ b < w.heap.size ∧ At w b 0 (more.map I64)) :
    Calls Tryd.prog 25 #[.agg a.cells.toArray, .slice p more.length cap] w fun e w' => ∃ v', e = .returned v' ∧ OwnB w' w.heap.size v' (encF (a.leaves more)) ∧ v' ≠ .slice none 0 0 ∧ Gr w none w' := by
  have hB := Blk.new w 27 a.cells
  have c0 : (w.alloc (.cells a.cells.toArray 27)).cell? ⟨w.heap.size, 0, none⟩ = some (.int .i64 a.f) := hB.cell? 0
  have c1 : (w.alloc (.cells a.cells.toArray 27)).cell? ⟨w.heap.size, 1, none⟩ = some (.int .i64 a.d) := hB.cell? 1
  have c2 : (w.alloc (.cells a.cells.toArray 27)).cell? ⟨w.heap.size, 2, none⟩ = some (.int .i64 a.s) := hB.cell? 2
  have c3 : (w.alloc (.cells a.cells.toArray 27)).cell? ⟨w.heap.size, 3, none⟩ = some (.int .i64 a.u) := hB.cell? 3
  have hG : Gr w none (w.alloc (.cells a.cells.toArray 27)) := (Gr.refl _ _).alloc _
  have hsz : (w.alloc (.cells a.cells.toArray 27)).heap.size = w.heap.size + 1 := World.size_alloc _ _
  go_enter Tryd.func25, Tryd.ntmps25
  go_upto_region 1 with fail
  change Code.wp _ _ _ _ (w.alloc (.cells a.cells.toArray 27))
  generalize (w.alloc (.cells a.cells.toArray 27)) = W at *
  have hL0 : LV w a [] (.slice none 0 0) (W.alloc (.cells #[.int .i64 3, .int .i64 0, .string ⟨#[]⟩, .slice none 0 0] 51)) := ⟨hG.alloc _, hB.alloc _, by rw [← hsz]; exact Blk.new W _ [_, _, _, _], World.ownsRow_nil _ _ _ _, ⟨none, 0, 0, rfl⟩⟩
  have hix : ∀ (m : Nat) (x : Int) (w : World), m < 4 → [a.f, a.d, a.s, a.u][m]? = some x → (Instr.index 93 (.agg #[.int .i64 a.f, .int .i64 a.d, .int .i64 a.s, .int .i64 a.u]) (.int .i64 (m : Int))).run Tryd.prog w = .ok (.int .i64 x) w := by
    intro m x w hm hx
    refine run_index_arr _ m _ Tryd.underlying93 (by kernel_rfl) (by kernel_rfl) hm ?_
    match m, hm with
    | 0, _ => simp at hx; simp [hx]
    | 1, _ => simp at hx; simp [hx]
    | 2, _ => simp at hx; simp [hx]
    | 3, _ => simp at hx; simp [hx]
  go_wp2_with fail
  go_loopw [20] (fun i wr => ∃ (m : Nat) (v : Value), m ≤ 4 ∧ i = .int .i64 m ∧ LV w a (([a.f, a.d, a.s, a.u].take m).map Leaf.int) v wr) (fun i _ => (4 - intOf i).toNat)
  case atStart => exact ⟨0, _, by omega, rfl, by first | exact hL0 | (rw [hsz] at hL0; exact hL0)⟩
  case round =>
    obtain ⟨m, v, hm, rfl, hL⟩ := hrel
    obtain ⟨p1, m1, cc1, rfl⟩ := hL.form
    have e3 := hL.val.cell? 3
    have f3 := hL.val.free 3
    by_cases hlt : m < 4
    · obtain ⟨x, hx⟩ : ∃ x, [a.f, a.d, a.s, a.u][m]? = some x := ⟨[a.f, a.d, a.s, a.u][m], List.getElem?_eq_getElem (by simpa using hlt)⟩
      have hix' := fun w => hix m x w hlt hx
      have HT := Lib.hid (show [a.f, a.d, a.s, a.u].take (m + 1) = [a.f, a.d, a.s, a.u].take m ++ [x] by rw [List.take_add_one, hx]; rfl)
      clear hx hix
      have hlen : ((([a.f, a.d, a.s, a.u].take m).map Leaf.int).map Leaf.cells).length = m := by simp; omega
      have hBw : w.heap.size + 2 ≤ (wr.alloc (.cells #[.int .i64 1, .int .i64 x, .string ⟨#[]⟩, .slice none 0 0] 51)).heap.size := by rw [World.size_alloc]; have := hL.val.lt; omega
      go_wp2_with (at_builtin; refine wl_value rfl _ _ rfl (w.heap.size + 2) (.slice p1 m1 cc1) ((([a.f, a.d, a.s, a.u].take m).map Leaf.int).map Leaf.cells) _ 1 x ⟨#[]⟩ none 0 0 rfl (hL.own.alloc _) hBw (by rw [hlen]; omega) wr.heap.size (at_new wr [_, _, _, _] _) rfl ?_; intro g cap6 w6 hown6 hgrow hat hlt6; have hLs := hL.step (x := .int x) ((Gr.refl wr none).alloc _) hgrow hown6; have k3 := ((hL.val.alloc (.cells #[.int .i64 1, .int .i64 x, .string ⟨#[]⟩, .slice none 0 0] 51)).grown hgrow (hL.row (by omega))).cell? 3; have kf := ((hL.val.alloc (.cells #[.int .i64 1, .int .i64 x, .string ⟨#[]⟩, .slice none 0 0] 51)).grown hgrow (hL.row (by omega))).free 3)
      go_roundw
      case rel => exact ⟨m + 1, _, by omega, int_eq (by omega), by rw [HT.out, List.map_append]; rw [hlen] at hLs; exact hLs⟩
      case measure => simp [intOf]; omega
    · obtain rfl : m = 4 := by omega
      clear hix
      have hL4 : LV w a [.int a.f, .int a.d, .int a.s, .int a.u] (.slice p1 m1 cc1) wr := hL
      clear hL
      have hch : At wr w.heap.size 4 (a.ch.map B8) := hL4.ack.at 4 _ fun i hi => by
        have hi' : i < 32 := by simpa [ha] using hi
        show (Value.int .i64 a.f :: Value.int .i64 a.d :: Value.int .i64 a.s :: Value.int .i64 a.u :: (a.ch.map B8 ++ [.int .i64 a.r, .int .i64 a.g]))[4 + i]? = _
        rw [show 4 + i = i + 1 + 1 + 1 + 1 by omega]
        simp only [List.getElem?_cons_succ]
        rw [List.getElem?_append_left hi, List.getElem?_eq_getElem hi]
      have hcv := conv_text wr.drew w.heap.size 4 32 a.ch hch ha
      have hcy := (hL4.val.alloc (.cells #[.int .i64 2, .int .i64 0, .string ⟨a.ch.toArray⟩, .slice none 0 0] 51)).cell? 3
      have hBw : w.heap.size + 2 ≤ (wr.drew.alloc (.cells (Leaf.text a.ch).cells.toArray 51)).heap.size := by rw [World.size_alloc]; have := hL4.val.lt; show w.heap.size + 2 ≤ wr.heap.size + 1; omega
      go_upto_region 7 with fail
      go_region_law ((refine step_value2 (by rfl) _ _ (by rfl) (w.heap.size + 2) (.slice p1 m1 cc1) ([Leaf.int a.f, Leaf.int a.d, Leaf.int a.s, Leaf.int a.u].map Leaf.cells) _ 2 0 ⟨a.ch.toArray⟩ none 0 0 (by rfl) (by exact hL4.own.alloc _) (by exact hBw) (by simp) wr.heap.size (by exact at_new wr (Leaf.text a.ch).cells _) (by rfl) ?_; intro g cap6 w6 hown6 hgrow hat hlt6; have k6 := (hL4.val.drew.alloc _).grown hgrow (hL4.row (by omega)); have k3 := k6.cell? 3; have kf := k6.free 3))
      all_goals
        have hL5 := hL4.step (x := .text a.ch) (by first | exact (Gr.refl wr none).drew.alloc _ | exact ((Gr.refl wr none).alloc _).drew) hgrow hown6
        clear hgrow hown6 hat hlt6 k6 k3 kf hcv hcy e3 f3 hch hBw hL4
        simp only [List.map_cons, List.map_nil, List.length_cons, List.length_nil, List.cons_append, List.nil_append, Nat.reduceAdd] at hL5
        generalize (w6.setCell ⟨w.heap.size + 1, 3, none⟩ (.slice (some ⟨g, 0, none⟩) 5 cap6)) = W7 at *
        go_wp2_with fail
        go_loopw [42] (fun i wr => ∃ (m : Nat) (v : Value), m ≤ more.length ∧ i = .int .i64 m ∧ LV w a ([.int a.f, .int a.d, .int a.s, .int a.u, .text a.ch] ++ (more.take m).map Leaf.int) v wr) (fun i _ => (more.length - intOf i).toNat)
        case atStart => exact ⟨0, _, by omega, rfl, hL5⟩
        case round =>
          obtain ⟨m, v, hm2, rfl, hL⟩ := hrel
          obtain ⟨p2, m2, cc2, rfl⟩ := hL.form
          have e3 := hL.val.cell? 3
          have f3 := hL.val.free 3
          by_cases hlt : m < more.length
          · obtain ⟨b, rfl, hb, hbA⟩ := hp.resolve_left (by intro e; rw [e] at hlt; simp at hlt)
            have hbc : wr.cell? ⟨b, m, none⟩ = some (.int .i64 more[m]) := by
              have := (hbA.grown hL.gr (by simp)) m (by simpa using hlt)
              rw [Nat.zero_add] at this
              rw [this, List.getElem_map]; rfl
            have HT := Lib.hid (show more.take (m + 1) = more.take m ++ [more[m]] from (List.take_append_getElem hlt).symm)
            generalize more[m] = x at *
            have hlen : (([Leaf.int a.f, .int a.d, .int a.s, .int a.u, .text a.ch] ++ (more.take m).map Leaf.int).map Leaf.cells).length = m + 5 := by simp; omega
            have hBw : w.heap.size + 2 ≤ (wr.alloc (.cells #[.int .i64 1, .int .i64 x, .string ⟨#[]⟩, .slice none 0 0] 51)).heap.size := by rw [World.size_alloc]; have := hL.val.lt; omega
            go_wp2_with (at_builtin; refine wl_value rfl _ _ rfl (w.heap.size + 2) (.slice p2 m2 cc2) (([Leaf.int a.f, .int a.d, .int a.s, .int a.u, .text a.ch] ++ (more.take m).map Leaf.int).map Leaf.cells) _ 1 x ⟨#[]⟩ none 0 0 rfl (hL.own.alloc _) hBw (by rw [hlen]; omega) wr.heap.size (at_new wr [_, _, _, _] _) rfl ?_; intro g cap6 w6 hown6 hgrow hat hlt6; have hLs := hL.step (x := .int x) ((Gr.refl wr none).alloc _) hgrow hown6; have k3 := ((hL.val.alloc (.cells #[.int .i64 1, .int .i64 x, .string ⟨#[]⟩, .slice none 0 0] 51)).grown hgrow (hL.row (by omega))).cell? 3; have kf := ((hL.val.alloc (.cells #[.int .i64 1, .int .i64 x, .string ⟨#[]⟩, .slice none 0 0] 51)).grown hgrow (hL.row (by omega))).free 3)
            go_roundw
            case rel => exact ⟨m + 1, _, by omega, int_eq (by omega), by rw [HT.out, List.map_append, ← List.append_assoc]; rw [hlen] at hLs; exact hLs⟩
            case measure => simp [intOf]; omega
          · obtain rfl : m = more.length := by omega
            rw [List.take_length] at hL
            have hLl : LV w a (a.leaves more) (.slice p2 m2 cc2) wr := hL
            clear hL
            have hll : (a.leaves more).length = more.length + 5 := by simp [Ack.leaves]
            have hgl := hLl.gr.size
            have hown9 := hLl.own
            obtain ⟨g9, cap9, hv9, hge9, hlt9⟩ := World.ownsRow.form hown9 (by rw [List.length_map, hll]; omega)
            rw [List.length_map] at hv9
            cases hv9
            have hA9 : At wr g9 0 ((a.leaves more).flatMap Leaf.cells) := by
              rw [List.flatMap_def]
              exact fun i hi => by
                have := hown9.cells (g := g9) rfl i _ (List.getElem?_eq_getElem hi)
                rw [Addr.add_lit] at this
                exact this
            have hok9 : ∀ x ∈ a.leaves more, x.ok := by
              obtain ⟨q1, q2, q3, q4, _, _⟩ := hi
              intro x hx
              simp only [Ack.leaves, List.mem_cons, List.mem_map] at hx
              rcases hx with rfl | rfl | rfl | rfl | rfl | ⟨y, hy, rfl⟩
              · exact q1
              · exact q2
              · exact q3
              · exact q4
              · show a.ch.length ≤ 1000; omega
              · exact hok y hy
            have hen := encode_list (a.leaves more) g9 cc2 wr hlt9 hA9 (by omega) (by omega) hok9
            rw [hll] at hen
            have d0 := hLl.val.cell? 0
            have d1 := hLl.val.cell? 1
            have d2 := hLl.val.cell? 2
            go_wp2_with (go_at_call 15; refine hen.mono ?_; rintro e w8 ⟨v8, rfl, hown8, hne8, hG8⟩)
            go_ret
            exact ⟨_, rfl, hown8.mono hgl, hne8, hLl.gr.trans hG8⟩
end Go.Proofs.YtjibmhmaoegcnaaDoor
namespace Go.Proofs.YtjibmhmaoegcnaaDoor
open Go.RowKit Go.Shelf
set_option linter.unusedVariables false
attribute [local go_sem ↓] Go.wp_at_zero Go.wp_at_succ
def ackTag : List UInt8 := [97, 99, 107]
/-- The message of an acknowledgement. -/
def Ack.msg (a : Ack) : List UInt8 := tagged ackTag (encF (a.leaves []))
theorem Ack.msg_length (a : Ack) : a.msg.length = 32 := tagged_length _ _
theorem encF_le (ls : List Leaf) (h : ∀ x ∈ ls, x.ok) (hl : ls.length ≤ 100) : (encF ls).length ≤ 200000 := by
  have := flat_enc_le ls h
  have := leb_len10 ls.length (by omega)
  simp only [encF, List.length_cons, List.length_append]; omega
theorem leaves_ok (a : Ack) (more : List Int) (ha : a.ch.length = 32) (hi : a.ints) (hok : ∀ x ∈ more, (Leaf.int x).ok) : ∀ x ∈ a.leaves more, x.ok := by
  obtain ⟨q1, q2, q3, q4, _, _⟩ := hi
  intro x hx
  simp only [Ack.leaves, List.mem_cons, List.mem_map] at hx
  rcases hx with rfl | rfl | rfl | rfl | rfl | ⟨y, hy, rfl⟩
  · exact q1
  · exact q2
  · exact q3
  · exact q4
  · show a.ch.length ≤ 1000; omega
  · exact hok y hy
set_option maxHeartbeats 1000000 in
set_option maxRecDepth 100000 in
theorem message_any (a : Ack) (w : World) (ha : a.ch.length = 32) (hi : a.ints) (hK : Laid w) :
    Calls Tryd.prog 45 #[.agg a.cells.toArray] w fun e w' => ∃ v, e = .returned v ∧ Bytes w' v a.msg ∧ Gr w none w' := by
  have hB := Blk.new w 27 a.cells
  have hG : Gr w none (w.alloc (.cells a.cells.toArray 27)) := (Gr.refl _ _).alloc _
  go_enter Tryd.func45, Tryd.ntmps45
  go_upto_region 1 with fail
  change Code.wp _ _ _ _ (w.alloc (.cells a.cells.toArray 27))
  generalize (w.alloc (.cells a.cells.toArray 27)) = W at *
  have hl := ackList_any a none [] 0 W ha hi (by simp) (by simp) (.inl rfl)
  have hle : (encF (a.leaves [])).length ≤ 900000 := by
    have := encF_le (a.leaves []) (leaves_ok a [] ha hi (by simp)) (by simp [Ack.leaves])
    omega
  go_wp2_with (first
    | (refine wl_load_blk rfl 27 _ rfl w.heap.size a.cells _ _ hB rfl Tryd.underlying27 rfl (by rw [a.cells_length ha]; kernel_rfl) ?_)
    | (go_at_call 25; refine hl.mono ?_; rintro e w1 ⟨v1, rfl, hown1, hne1, hG1⟩)
    | (go_at_call 17; refine (tagged_any _ v1 (encF (a.leaves [])) w1 (by decide) hle (hown1.bytes hne1) ((hK.new hG).new hG1)).mono ?_; rintro e w2 ⟨rfl, hG2⟩)
    | (refine wl_store_new rfl 23 _ _ rfl (a.msg.map B8) _ _ rfl rfl (by kernel_rfl) (by rw [List.length_map, a.msg_length]; rfl) (ones_B8 _) ?_))
  go_ret
  refine ⟨_, rfl, ⟨w2.heap.size, 0, 32, by rw [a.msg_length]; rfl, by rw [a.msg_length]; exact Nat.le_refl _, by decide, by rw [World.size_alloc]; omega, (Blk.new w2 23 (a.msg.map B8)).at0⟩, ((hG.trans hG1).trans hG2).alloc _⟩
/-- The encoding of an acknowledgement. -/
def Ack.enc (a : Ack) : List UInt8 := encF (a.leaves [a.r, a.g])
/-- What Encode leaves. -/
def EncPost (w : World) (a : Ack) (e : Ending) (w' : World) : Prop :=
  Gr w none w' ∧ (if a.formed then ∃ v, e = .returned (.tuple #[v, .int .i64 0]) ∧ OwnB w' w.heap.size v a.enc ∧ v ≠ .slice none 0 0 else e = .returned (.tuple #[.slice none 0 0, .int .i64 330]))
set_option maxHeartbeats 1000000 in
set_option maxRecDepth 100000 in
theorem ackEncode_any (a : Ack) (w : World) (ha : a.ch.length = 32) (hi : a.ints) :
    Calls Tryd.prog 9 #[.agg a.cells.toArray] w fun e w' => EncPost w a e w' := by
  have hB := Blk.new w 27 a.cells
  have hG : Gr w none (w.alloc (.cells a.cells.toArray 27)) := (Gr.refl _ _).alloc _
  have hFo := ackFormed_any a
  go_enter Tryd.func9, Tryd.ntmps9
  go_upto_region 1 with fail
  change Code.wp _ _ _ _ (w.alloc (.cells a.cells.toArray 27))
  have hsz : (w.alloc (.cells a.cells.toArray 27)).heap.size = w.heap.size + 1 := World.size_alloc _ _
  generalize (w.alloc (.cells a.cells.toArray 27)) = W at *
  cases hf : a.formed with
  | false =>
    go_wp2_with (first
      | (refine wl_load_blk rfl 27 _ rfl w.heap.size a.cells _ _ hB rfl Tryd.underlying27 rfl (by rw [a.cells_length ha]; kernel_rfl) ?_)
      | (go_at_call 24; refine (hFo W ha).mono ?_; rintro e w1 ⟨rfl, hG1⟩; rw [hf]))
    go_ret2
    exact ⟨hG.trans hG1, by rw [hf]; rfl⟩
  | true =>
    have c36 : W.cell? ⟨w.heap.size, 36, none⟩ = some (.int .i64 a.r) := (hB.cell? 36).trans (a.c36 ha)
    have c37 : W.cell? ⟨w.heap.size, 37, none⟩ = some (.int .i64 a.g) := (hB.cell? 37).trans (a.c37 ha)
    go_upto_region 3 with (first
      | (refine wl_load_blk rfl 27 _ rfl w.heap.size a.cells _ _ hB rfl Tryd.underlying27 rfl (by rw [a.cells_length ha]; kernel_rfl) ?_)
      | (go_at_call 24; refine (hFo W ha).mono ?_; rintro e w1 ⟨rfl, hG1⟩; rw [hf]; have hB1 := hB.grown hG1 (by simp); have d36 : w1.cell? ⟨w.heap.size, 36, none⟩ = some (.int .i64 a.r) := (hB1.cell? 36).trans (a.c36 ha); have d37 : w1.cell? ⟨w.heap.size, 37, none⟩ = some (.int .i64 a.g) := (hB1.cell? 37).trans (a.c37 ha)))
    have hl := ackList_any a (some ⟨w1.heap.size, 0, none⟩) [a.r, a.g] 2 (w1.alloc (.cells #[.int .i64 a.r, .int .i64 a.g] 3)) ha hi (by simp) (by
      obtain ⟨_, _, _, _, q5, q6⟩ := hi
      intro x hx
      simp only [List.mem_cons, List.not_mem_nil, or_false] at hx
      rcases hx with rfl | rfl
      · exact q5
      · exact q6) (.inr ⟨w1.heap.size, rfl, by rw [World.size_alloc]; omega, at_new w1 [_, _] _⟩)
    have hsl := hG.size
    have hs1 := hG1.size
    go_wp2_with (first
      | (refine wl_load_blk rfl 27 _ rfl w.heap.size a.cells _ _ hB1 rfl Tryd.underlying27 rfl (by rw [a.cells_length ha]; kernel_rfl) ?_)
      | (go_at_call 25; refine hl.mono ?_; rintro e w2 ⟨v2, rfl, hown2, hne2, hG2⟩))
    go_ret2
    refine ⟨((hG.trans hG1).alloc _).trans hG2, ?_⟩
    rw [hf]
    exact ⟨_, rfl, hown2.mono (by rw [World.size_alloc]; omega), hne2⟩
end Go.Proofs.YtjibmhmaoegcnaaDoor
namespace Go.Proofs.YtjibmhmaoegcnaaDoor
open Go.RowKit Go.Shelf
set_option linter.unusedVariables false
attribute [local go_sem ↓] Go.wp_at_zero Go.wp_at_succ
def ackCheckV (a : Ack) (pub : Int) : Int := if a.formed then (if verifyB pub a.msg a.r a.g then 0 else 222) else 330
/-- An acknowledgement in a variable of the call's own. -/
structure AV (w : World) (a : Ack) (w' : World) : Prop where
  gr : Gr w none w'
  blk : Blk w' w.heap.size 27 a.cells
theorem AV.drew {w w' : World} {a : Ack} (h : AV w a w') : AV w a w'.drew := ⟨h.gr.drew, h.blk⟩
theorem AV.on {w w' w'' : World} {a : Ack} (h : AV w a w') (k : Gr w' none w'') : AV w a w'' := ⟨h.gr.trans k, h.blk.grown k (by simp)⟩
theorem AV.all {w w' : World} {a : Ack} (ha : a.ch.length = 32) (h : AV w a w') : w'.rangeAt w.heap.size 0 a.cells ∧ w'.cell? ⟨w.heap.size, 36, none⟩ = some (.int .i64 a.r) ∧ w'.cell? ⟨w.heap.size, 37, none⟩ = some (.int .i64 a.g) ∧ AV w a w' :=
  ⟨fun j v hv => by rw [Nat.zero_add, h.blk.cell? j]; exact hv, (h.blk.cell? 36).trans (a.c36 ha), (h.blk.cell? 37).trans (a.c37 ha), h⟩
set_option maxHeartbeats 1000000 in
set_option maxRecDepth 100000 in
theorem ackCheck_any (a : Ack) (pub : Int) (w : World) (ha : a.ch.length = 32) (hi : a.ints) (hK0 : Laid w) :
    Calls Tryd.prog 22 #[.agg a.cells.toArray, .int .i64 pub] w fun e w' => e = .returned (.int .i64 (ackCheckV a pub)) ∧ Gr w none w' := by
  have hB := Blk.new w 27 a.cells
  have hG : Gr w none (w.alloc (.cells a.cells.toArray 27)) := (Gr.refl _ _).alloc _
  have hFo := ackFormed_any a
  go_enter Tryd.func22, Tryd.ntmps22
  go_upto_region 1 with fail
  change Code.wp _ _ _ _ (w.alloc (.cells a.cells.toArray 27))
  generalize (w.alloc (.cells a.cells.toArray 27)) = W at *
  cases hf : a.formed with
  | false =>
    have hV : ackCheckV a pub = 330 := by unfold ackCheckV; rw [hf]; rfl
    go_wp2_with (first
      | (refine wl_load_blk rfl 27 _ rfl w.heap.size a.cells _ _ hB rfl Tryd.underlying27 rfl (by rw [a.cells_length ha]; kernel_rfl) ?_)
      | (go_at_call 24; refine (hFo W ha).mono ?_; rintro e w1 ⟨rfl, hG1⟩; rw [hf]))
    go_ret
    exact ⟨by rw [hV]; rfl, hG.trans hG1⟩
  | true =>
    go_upto_region 3 with (first
      | (refine wl_load_blk rfl 27 _ rfl w.heap.size a.cells _ _ hB rfl Tryd.underlying27 rfl (by rw [a.cells_length ha]; kernel_rfl) ?_)
      | (go_at_call 24; refine (hFo W ha).mono ?_; rintro e w1 ⟨rfl, hG1⟩; rw [hf]))
    have hA1 : AV w a w1 := ⟨hG.trans hG1, hB.grown hG1 (by simp)⟩
    obtain ⟨r0, d36, d37, _⟩ := hA1.all ha
    have hu := Tryd.underlying27
    have hin : ((Tryd.prog).info? 27).map (·.size) = some a.cells.length := by rw [a.cells_length ha]; kernel_rfl
    have hM := message_any a w1.drew ha hi (hK0.new hA1.drew.gr)
    refine wp_region_held_drew (S := fun w' => w'.rangeAt w.heap.size 0 a.cells ∧ w'.cell? ⟨w.heap.size, 36, none⟩ = some (.int .i64 a.r) ∧ w'.cell? ⟨w.heap.size, 37, none⟩ = some (.int .i64 a.g) ∧ AV w a w') (by kernel_rfl) (hA1.drew.all ha) (fun hS => ?_)
    refine wpAnyH_take (i := 0) (oi := { dst := some 8, op := _, type := _, pos := _, after := _, guard := none }) (v := ?v0) rfl (by kernel_rfl) (by kernel_rfl) (by kernel_rfl) (fun _ _ _ h => h) (Or.inl ⟨by rfl, ?h0⟩) hS ?r0
    case h0 => intro w0 hw0; obtain ⟨s0, s1, s2, _⟩ := hw0; go_simp; try with_reducible rfl
    simp only [Act.put, List.setIfInBounds_toArray, List.set_cons_zero, List.set_cons_succ]
    refine wpAnyH_take (i := 1) (oi := { dst := some 9, op := _, type := _, pos := _, after := _, guard := none }) (v := .agg a.cells.toArray) rfl (by kernel_rfl) (by kernel_rfl) (by kernel_rfl) (fun _ _ _ h => h) (yieldsIf_load_mid (by rfl) 27 _ rfl w.heap.size 0 (by rfl) a.cells _ (fun _ h => h.1) hu rfl hin) hS ?r1
    simp only [Act.put, List.setIfInBounds_toArray, List.set_cons_zero, List.set_cons_succ]
    refine wpAnyH_take (i := 3) (oi := { dst := some 11, op := _, type := _, pos := _, after := _, guard := none }) (v := ?v3) rfl (by kernel_rfl) (by kernel_rfl) (by kernel_rfl) (fun _ _ _ h => h) (Or.inl ⟨by rfl, ?h3⟩) hS ?r3
    case h3 => intro w0 hw0; obtain ⟨s0, s1, s2, _⟩ := hw0; go_simp; try with_reducible rfl
    simp only [Act.put, List.setIfInBounds_toArray, List.set_cons_zero, List.set_cons_succ]
    refine wpAnyH_take (i := 4) (oi := { dst := some 12, op := _, type := _, pos := _, after := _, guard := none }) (v := ?v4) rfl (by kernel_rfl) (by kernel_rfl) (by kernel_rfl) (fun _ _ _ h => h) (Or.inl ⟨by rfl, ?h4⟩) hS ?r4
    case h4 => intro w0 hw0; obtain ⟨s0, s1, s2, _⟩ := hw0; go_simp; try with_reducible rfl
    simp only [Act.put, List.setIfInBounds_toArray, List.set_cons_zero, List.set_cons_succ]
    refine wpAnyH_ready (rs := [2]) (by kernel_rfl) (by simp) ?_
    refine AllReadyH.cons (o := { dst := some 10, op := _, type := _, pos := _, after := _, guard := none }) rfl (fun K hK => ?_) AllReadyH.nil
    go_simp
    refine hM.mono ?_
    rintro e w2 ⟨v2, rfl, hv2, hG2⟩
    have hA2 := hA1.drew.on hG2
    refine hK.out _ _ (hA2.all ha) (fun hS2 => ?_)
    clear hK K
    refine wpAnyH_ready (rs := [5]) (by kernel_rfl) (by simp) ?_
    refine AllReadyH.cons (o := { dst := some 13, op := _, type := _, pos := _, after := _, guard := none }) rfl (fun K hK => ?_) AllReadyH.nil
    go_simp
    refine (verify_any pub a.r a.g v2 a.msg _ (by rw [a.msg_length]; omega) hv2 (hK0.new hA2.gr)).mono ?_
    rintro e w3 ⟨rfl, hG3⟩
    have hA3 := hA2.on hG3
    refine hK.out _ _ (hA3.all ha) (fun hS3 => ?_)
    clear hK K
    refine wpAnyH_take (i := 6) (oi := { dst := some 14, op := _, type := _, pos := _, after := _, guard := none }) (v := ?v6) rfl (by kernel_rfl) (by kernel_rfl) (by kernel_rfl) (fun _ _ _ h => h) (Or.inl ⟨by rfl, ?h6⟩) hS3 ?r6
    case h6 => intro w0 hw0; obtain ⟨s0, s1, s2, _⟩ := hw0; go_simp; try with_reducible rfl
    simp only [Act.put, List.setIfInBounds_toArray, List.set_cons_zero, List.set_cons_succ]
    refine wpAnyH_done (by kernel_rfl) ?_ _
    cases hv : verifyB pub a.msg a.r a.g with
    | false =>
      have hV : ackCheckV a pub = 222 := by unfold ackCheckV; rw [hf, hv]; rfl
      go_wp2_with fail
      go_ret
      exact ⟨by rw [hV]; rfl, hA3.gr⟩
    | true =>
      have hV : ackCheckV a pub = 0 := by unfold ackCheckV; rw [hf, hv]; rfl
      go_wp2_with fail
      go_ret
      exact ⟨by rw [hV]; rfl, hA3.gr⟩
end Go.Proofs.YtjibmhmaoegcnaaDoor
namespace Go.Proofs.YtjibmhmaoegcnaaDoor
open Go.RowKit Go.Shelf
set_option linter.unusedVariables false
attribute [local go_sem ↓] Go.wp_at_zero Go.wp_at_succ
def zeroAck : Ack := ⟨0, 0, 0, 0, List.replicate 32 0, 0, 0⟩
/-- A row laid into a value that is being built. -/
theorem foldl_set (o : Nat) : ∀ (ws : List Value) (k : Nat) (pre olds post : List Value), olds.length = ws.length → pre.length = o + k →
    (ws.zipIdx k).foldl (fun cs x => cs.setIfInBounds (o + x.2) x.1) (pre ++ (olds ++ post)).toArray = (pre ++ (ws ++ post)).toArray
  | [], k, pre, olds, post, h, hp => by
    obtain rfl : olds = [] := List.eq_nil_of_length_eq_zero h
    rfl
  | w :: ws, k, pre, [], post, h, hp => by simp at h
  | w :: ws, k, pre, x :: olds, post, h, hp => by
    have ih := foldl_set o ws (k + 1) (pre ++ [w]) olds post (by simpa using h) (by simp; omega)
    rw [List.zipIdx_cons, List.foldl_cons]
    have e : ((pre ++ (x :: olds ++ post)).toArray).setIfInBounds (o + k) w = (pre ++ [w] ++ (olds ++ post)).toArray := by
      rw [List.setIfInBounds_toArray, ← hp, List.set_append_right _ _ (Nat.le_refl _), Nat.sub_self]
      simp
    simp only [e]
    rw [ih]
    simp
theorem build_ack (f d s u : Int) (ch : List UInt8) (ha : ch.length = 32) :
    Value.agg ((ch.map B8).zipIdx.foldl (fun cs x => cs.setIfInBounds (4 + x.2) x.1) (([.int .i64 f, .int .i64 d, .int .i64 s, .int .i64 u] : List Value) ++ ((List.replicate 32 (.int .u8 0) : List Value) ++ ([.int .i64 0, .int .i64 0] : List Value))).toArray) = .agg (Ack.mk f d s u ch 0 0).cells.toArray := by
  rw [foldl_set 4 (ch.map B8) 0 _ _ _ (by simp [ha]) rfl]
  rfl
theorem set_sig (f d s u r g r0 g0 : Int) (ch : List UInt8) (ha : ch.length = 32) : ((Ack.mk f d s u ch r0 g0).cells.set 36 (.int .i64 r)).set 37 (.int .i64 g) = (Ack.mk f d s u ch r g).cells := by
  have hl : ((.int .i64 f :: .int .i64 d :: .int .i64 s :: .int .i64 u :: ch.map B8 : List Value)).length = 36 := by simp [ha]
  have e : ∀ r g, (Ack.mk f d s u ch r g).cells = (.int .i64 f :: .int .i64 d :: .int .i64 s :: .int .i64 u :: ch.map B8 : List Value) ++ ([.int .i64 r, .int .i64 g] : List Value) := fun r g => rfl
  rw [e, e, List.set_append_right _ _ (by rw [hl]; omega), List.set_append_right _ _ (by rw [hl]; omega), hl]
  rfl
/-- What Make makes. -/
def makeV (f d s u : Int) (ch : List UInt8) (x : Int) : Ack × Int :=
  if (Ack.mk f d s u ch 0 0).formed then
    if ValidK x then (⟨f, d, s, u, ch, (powP 4 (signK x.toNat (Ack.mk f d s u ch 0 0).msg) : Nat), (signS x.toNat (Ack.mk f d s u ch 0 0).msg : Nat)⟩, 0) else (zeroAck, 50)
  else (zeroAck, 330)
theorem results_make (w' : World) (g : Nat) (tmps : Array Value) (a : Ack) (ha : a.ch.length = 32) (y : Int) (hp : tmps.getD 12 undef = .pointer (some ⟨g, 0, none⟩)) (hq : tmps.getD 13 undef = .int .i64 y) (hB : Blk w' g 27 a.cells) : (results Tryd.f21 tmps).run Tryd.prog w' = .ok (.tuple #[.agg a.cells.toArray, .int .i64 y]) w' := by
  have := results_row_tmp (P := Tryd.prog) (fn := Tryd.f21) rfl tmps w' g 27 a.cells.toArray (0, 0) _ hp hB Tryd.underlying27 rfl (by rw [List.size_toArray, a.cells_length ha]; kernel_rfl)
  rw [hq] at this
  exact this
set_option maxHeartbeats 1000000 in
set_option maxRecDepth 100000 in
theorem ackMake_any (f d s u x : Int) (ch : List UInt8) (w : World) (ha : ch.length = 32) (hi : (Ack.mk f d s u ch 0 0).ints) (hK : Laid w) :
    Calls Tryd.prog 21 #[.int .i64 f, .int .i64 d, .int .i64 s, .int .i64 u, Dg ch, .int .i64 x] w fun e w' => e = .returned (.tuple #[.agg (makeV f d s u ch x).1.cells.toArray, .int .i64 (makeV f d s u ch x).2]) ∧ Gr w none w' := by
  have hFo := ackFormed_any (Ack.mk f d s u ch 0 0)
  have hz : zeroAck.ch.length = 32 := rfl
  go_enter Tryd.func21, Tryd.ntmps21
  go_upto_region 1 with fail
  have hC := Blk.new w 23 (ch.map B8)
  change Code.wp _ _ _ _ ((w.alloc (.cells (ch.map B8).toArray 23)).alloc (.cells zeroAck.cells.toArray 27))
  have hC := hC.alloc (.cells zeroAck.cells.toArray 27)
  have hZ := Blk.new (w.alloc (.cells (ch.map B8).toArray 23)) 27 zeroAck.cells
  have hG := ((Gr.refl w none).alloc (.cells (ch.map B8).toArray 23)).alloc (.cells zeroAck.cells.toArray 27)
  rw [World.size_alloc] at hZ
  generalize ((w.alloc (.cells (ch.map B8).toArray 23)).alloc (.cells zeroAck.cells.toArray 27)) = W at *
  go_upto_region 2 with (first
      | (refine wl_load_blk rfl 23 _ rfl w.heap.size (ch.map B8) _ _ hC rfl Tryd.underlying23 rfl (by rw [List.length_map, ha]; kernel_rfl) ?_)
      | (refine wl_store_new rfl 27 _ _ rfl (Ack.mk f d s u ch 0 0).cells _ _ rfl ?hy (by kernel_rfl) (by rw [Ack.cells_length _ ha]; rfl) (Ack.cells_one _) ?hr; case hy => exact build_ack f d s u ch ha))
  have hX := Blk.new W 27 (Ack.mk f d s u ch 0 0).cells
  have hZ2 := hZ.alloc (.cells (Ack.mk f d s u ch 0 0).cells.toArray 27)
  have hG2 := hG.alloc (.cells (Ack.mk f d s u ch 0 0).cells.toArray 27)
  have hZX : w.heap.size + 1 < W.heap.size := hZ.lt
  clear hC hZ
  generalize (W.alloc (.cells (Ack.mk f d s u ch 0 0).cells.toArray 27)) = W2 at *
  generalize W.heap.size = X at *
  have hin : ((Tryd.prog).info? 27).map (·.size) = some (Ack.mk f d s u ch 0 0).cells.length := by rw [Ack.cells_length _ ha]; kernel_rfl
  have hin0 : ((Tryd.prog).info? 27).map (·.size) = some zeroAck.cells.length := by rw [Ack.cells_length _ hz]; kernel_rfl
  cases hf : (Ack.mk f d s u ch 0 0).formed with
  | false =>
    have hV : makeV f d s u ch x = (zeroAck, 330) := by unfold makeV; rw [hf]; rfl
    go_wp2_with (first
      | (refine wl_load_blk rfl 27 _ rfl X (Ack.mk f d s u ch 0 0).cells _ _ hX rfl Tryd.underlying27 rfl hin ?_)
      | (go_at_call 24; refine (hFo W2 ha).mono ?_; rintro e w3 ⟨rfl, hG3⟩; rw [hf]; have hZ3 := hZ2.grown hG3 (by simp))
      | (refine wl_load_blk rfl 27 _ rfl (w.heap.size + 1) zeroAck.cells _ _ hZ3 rfl Tryd.underlying27 rfl hin0 ?_)
      | (refine wl_store_blk rfl 27 _ _ rfl (w.heap.size + 1) zeroAck.cells zeroAck.cells _ hZ3 rfl rfl hin0 rfl (Ack.cells_one _) ?_; intro w4 hZ4 hG4))
    refine bodyPost_ret (results_make w4 (w.heap.size + 1) _ zeroAck hz 330 rfl rfl hZ4) rfl ?_
    rw [hV]
    exact ⟨rfl, (hG2.trans hG3).on hG4 (by intro b hb; cases hb; omega)⟩
  | true =>
    have hms := message_any (Ack.mk f d s u ch 0 0) W2 ha hi (hK.new hG2)
    by_cases hx : ValidK x
    · obtain ⟨n, rfl⟩ : ∃ n : Nat, x = n := ⟨x.toNat, by have := hx.1; omega⟩
      have hV : makeV f d s u ch n = (⟨f, d, s, u, ch, (powP 4 (signK n (Ack.mk f d s u ch 0 0).msg) : Nat), (signS n (Ack.mk f d s u ch 0 0).msg : Nat)⟩, 0) := by unfold makeV; rw [hf, if_pos rfl, if_pos hx, Int.toNat_natCast]
      have hSg := fun v0 w0 h1 h2 => sign_good n v0 (Ack.mk f d s u ch 0 0).msg w0 hx (by rw [Ack.msg_length]; omega) h1 h2
      clear hx
      obtain ⟨R, hR⟩ : ∃ R : Int, R = (powP 4 (signK n (Ack.mk f d s u ch 0 0).msg) : Nat) := ⟨_, rfl⟩
      obtain ⟨S, hS⟩ : ∃ S : Int, S = (signS n (Ack.mk f d s u ch 0 0).msg : Nat) := ⟨_, rfl⟩
      rw [← hR, ← hS] at hSg hV
      clear hR hS
      have hin1 : ((Tryd.prog).info? 27).map (·.size) = some (Ack.mk f d s u ch R S).cells.length := by rw [Ack.cells_length _ ha]; kernel_rfl
      go_wp2_with (first
        | (refine wl_load_blk rfl 27 _ rfl X (Ack.mk f d s u ch 0 0).cells _ _ hX rfl Tryd.underlying27 rfl hin ?_)
        | (go_at_call 24; refine (hFo W2 ha).mono ?_; rintro e w3 ⟨rfl, hG3⟩; rw [hf]; have hX3 := hX.grown hG3 (by simp); have hZ3 := hZ2.grown hG3 (by simp))
        | (refine wl_load_blk rfl 27 _ rfl X (Ack.mk f d s u ch 0 0).cells _ _ hX3 rfl Tryd.underlying27 rfl hin ?_)
        | (go_at_call 45; refine (message_any (Ack.mk f d s u ch 0 0) w3 ha hi ((hK.new hG2).new hG3)).mono ?_; rintro e w4 ⟨v4, rfl, hv4, hG4⟩)
        | (go_at_call 44; refine (hSg v4 w4 hv4 (((hK.new hG2).new hG3).new hG4)).mono ?_; rintro e w5 ⟨rfl, hG5⟩; have hX5 := (hX3.grown hG4 (by simp)).grown hG5 (by simp); have hZ5 := (hZ3.grown hG4 (by simp)).grown hG5 (by simp); have c36 := (hX5.cell? 36).trans (Ack.c36 _ ha); have c37 := (hX5.cell? 37).trans (Ack.c37 _ ha); have f36 := hX5.free 36; have f37 := hX5.free 37; have hZ6 := (hZ5.other (b' := X) (i := 36) (by omega) (.int .i64 R)).other (b' := X) (i := 37) (by omega) (.int .i64 S); have hX6 := (hX5.set 36 (.int .i64 R)).set 37 (.int .i64 S); rw [set_sig f d s u R S 0 0 ch ha] at hX6)
        | (refine wl_load_blk rfl 27 _ rfl X (Ack.mk f d s u ch R S).cells _ _ hX6 rfl Tryd.underlying27 rfl hin1 ?_)
        | (refine wl_store_blk rfl 27 _ _ rfl (w.heap.size + 1) (Ack.mk f d s u ch R S).cells zeroAck.cells _ hZ6 rfl rfl hin1 (by rw [Ack.cells_length _ hz, Ack.cells_length _ ha]) (Ack.cells_one _) ?_; intro w7 hZ7 hG7))
      refine bodyPost_ret (results_make w7 (w.heap.size + 1) _ (Ack.mk f d s u ch R S) ha 0 rfl rfl hZ7) rfl ?_
      rw [hV]
      exact ⟨rfl, (((((hG2.trans hG3).trans hG4).trans hG5).setCell (.inl (by omega)) _).setCell (.inl (by omega)) _).on hG7 (by intro b hb; cases hb; omega)⟩
    · have hV : makeV f d s u ch x = (zeroAck, 50) := by unfold makeV; rw [hf, if_pos rfl, if_neg hx]
      have hSb := fun v0 w0 => sign_bad x v0 w0 hx
      go_wp2_with (first
        | (refine wl_load_blk rfl 27 _ rfl X (Ack.mk f d s u ch 0 0).cells _ _ hX rfl Tryd.underlying27 rfl hin ?_)
        | (go_at_call 24; refine (hFo W2 ha).mono ?_; rintro e w3 ⟨rfl, hG3⟩; rw [hf]; have hX3 := hX.grown hG3 (by simp); have hZ3 := hZ2.grown hG3 (by simp))
        | (refine wl_load_blk rfl 27 _ rfl X (Ack.mk f d s u ch 0 0).cells _ _ hX3 rfl Tryd.underlying27 rfl hin ?_)
        | (go_at_call 45; refine (message_any (Ack.mk f d s u ch 0 0) w3 ha hi ((hK.new hG2).new hG3)).mono ?_; rintro e w4 ⟨v4, rfl, hv4, hG4⟩)
        | (go_at_call 44; refine (hSb v4 w4).mono ?_; rintro e w5 ⟨rfl, hG5⟩; have hX5 := (hX3.grown hG4 (by simp)).grown hG5 (by simp); have hZ5 := (hZ3.grown hG4 (by simp)).grown hG5 (by simp); have c36 := (hX5.cell? 36).trans (Ack.c36 _ ha); have c37 := (hX5.cell? 37).trans (Ack.c37 _ ha); have f36 := hX5.free 36; have f37 := hX5.free 37; have hZ6 := (hZ5.other (b' := X) (i := 36) (by omega) (.int .i64 0)).other (b' := X) (i := 37) (by omega) (.int .i64 0))
        | (refine wl_load_blk rfl 27 _ rfl (w.heap.size + 1) zeroAck.cells _ _ hZ6 rfl Tryd.underlying27 rfl hin0 ?_)
        | (refine wl_store_blk rfl 27 _ _ rfl (w.heap.size + 1) zeroAck.cells zeroAck.cells _ hZ6 rfl rfl hin0 rfl (Ack.cells_one _) ?_; intro w7 hZ7 hG7))
      refine bodyPost_ret (results_make w7 (w.heap.size + 1) _ zeroAck hz 50 rfl rfl hZ7) rfl ?_
      rw [hV]
      exact ⟨rfl, (((((hG2.trans hG3).trans hG4).trans hG5).setCell (.inl (by omega)) _).setCell (.inl (by omega)) _).on hG7 (by intro b hb; cases hb; omega)⟩
end Go.Proofs.YtjibmhmaoegcnaaDoor
namespace Go.Proofs.YtjibmhmaoegcnaaDoor
open Go.RowKit Go.Shelf
set_option linter.unusedVariables false
attribute [local go_sem ↓] Go.wp_at_zero Go.wp_at_succ
theorem run_copy_text {W : World} {g o dLen dCap : Nat} {e ty : TypeId} {cs : List Value} (s : List UInt8) (hB : Blk W g e cs) (hfit : o + min s.length dLen ≤ cs.length) :
    (Builtin.copy_ #[28, 9] ty #[.slice (some ⟨g, o, none⟩) dLen dCap, .string ⟨s.toArray⟩]).run Tryd.prog W = .ok (goInt (min s.length dLen : Nat)) (W.setRow g (splice cs o ((s.take dLen).map B8)).toArray) := by
  obtain ⟨i0, hi, hz0, hz1, hz2⟩ := info_u8 info_u8_here
  have hlen : ((s.take dLen).map B8).length = min s.length dLen := by simp; omega
  have hst := run_storeCells_at Tryd.prog g o e ((s.take dLen).map B8) 0 cs.toArray W hB (by rw [hlen]; simpa using hfit) (ones_B8 _)
  have hs : (ByteArray.mk s.toArray).size = s.length := by simp [ByteArray.size]
  have htk : List.take (min s.length dLen) (List.map (fun b : UInt8 => Value.int IntKind.u8 (b.toNat : Int)) s) = (s.take dLen).map B8 := by
    rw [← List.map_take, show s.take (min s.length dLen) = s.take dLen by rw [Nat.min_comm, ← List.take_take, List.take_length]]
    rfl
  have hmin : Nat.min s.length dLen = min s.length dLen := rfl
  simp [Builtin.copy_, run_underlying Tryd.underlying28, Builtin.lenOf, Builtin.firstCells, sizeOf, typeInfo, hi, hs, hmin]
  rw [htk]
  simp only [Nat.add_zero] at hst
  rw [hst]
  simp [Result.andThen, splice]
theorem step_copy_text {ops : Array Oper} {o : Oper} {a : Act} {K : Act → World → Prop} {Q : Exit → Act → World → Prop} {E : Prop} (hgd : o.guard = none) (d x : Operand)
    (ho : o.op = .call { callee := .builtin .copy, args := #[d, x], argTypes := #[28, 9] }) (g p dLen dCap : Nat) (e : TypeId) (cs : List Value) (s : List UInt8) (W : World)
    (hd : a.eval d = .slice (some ⟨g, p, none⟩) dLen dCap) (hx : a.eval x = .string ⟨s.toArray⟩) (hB : Blk W g e cs) (hfit : p + min s.length dLen ≤ cs.length)
    (h : ∀ v w1, Blk w1 g e (splice cs p ((s.take dLen).map B8)) → Gr W (some g) w1 → K (a.put o.dst v) w1) :
    if Region.wanted o (yielded ops a.tmps) = true then Oper.wp Tryd.prog o a W K Q else E := by
  have hw : Region.wanted o (yielded ops a.tmps) = true := by simp [Region.wanted, hgd]
  rw [if_pos hw]
  have hrun := run_copy_text (ty := o.type) (dCap := dCap) s hB hfit
  unfold Oper.wp
  simp only [execOp, ho, resolve, invoke, builtin, Sem.run_bind, Sem.run_pure, Result.andThen_ok, List.map_toArray, List.map_cons, List.map_nil, hd, hx, hrun]
  exact h _ _ (hB.setRow _) ((Gr.refl _ _).setRow (.inr rfl) _)
def Tree.n : Tree → Int
  | .int n => n
  | _ => 0
def Tree.s : Tree → List UInt8
  | .text s => s
  | _ => []
/-- A text laid into 32 zeros. -/
def chOf (s : List UInt8) : List UInt8 := s.take 32 ++ List.replicate (32 - s.length) 0
theorem chOf_length (s : List UInt8) : (chOf s).length = 32 := by simp [chOf]; omega
theorem chOf_id (s : List UInt8) (h : s.length = 32) : chOf s = s := by
  unfold chOf
  rw [List.take_of_length_le (by omega), h]; simp
theorem splice_ch (f d s u r g : Int) (t : List UInt8) : splice (Ack.mk f d s u (List.replicate 32 0) r g).cells 4 ((t.take 32).map B8) = (Ack.mk f d s u (chOf t) r g).cells := by
  have hz : (List.replicate 32 (0 : UInt8)).map B8 = List.replicate 32 (B8 0) := by simp
  have hm : (t.take 32).length ≤ 32 := by simp; omega
  unfold splice chOf Ack.cells
  simp only [List.take_succ_cons, List.take_zero, List.cons_append, List.nil_append, List.length_map, List.map_append, hz, List.map_replicate]
  rw [show 4 + (t.take 32).length = (t.take 32).length + 1 + 1 + 1 + 1 by omega]
  simp only [List.drop_succ_cons]
  rw [List.drop_append_of_le_length (by simp; omega), List.drop_replicate, List.append_assoc]
  have : 32 - (t.take 32).length = 32 - t.length := by simp; omega
  rw [this]
/-- The acknowledgement that seven values give. -/
def ackOf (ts : List Tree) : Ack := ⟨(ts.getD 0 (.list [])).n, (ts.getD 1 (.list [])).n, (ts.getD 2 (.list [])).n, (ts.getD 3 (.list [])).n, chOf (ts.getD 4 (.list [])).s, (ts.getD 5 (.list [])).n, (ts.getD 6 (.list [])).n⟩
theorem TV.cell1 {w : World} {A : Nat → Prop} {t : Tree} {cs : List Value} (k : TV w A t cs) : cs[1]? = some (.int .i64 t.n) := by cases k <;> rfl
theorem TV.cell2 {w : World} {A : Nat → Prop} {t : Tree} {cs : List Value} (k : TV w A t cs) : cs[2]? = some (.string ⟨t.s.toArray⟩) := by cases k <;> rfl
theorem TV.len {w : World} {A : Nat → Prop} {t : Tree} {cs : List Value} (k : TV w A t cs) : cs.length = 4 := by cases k <;> rfl
theorem flat4 (css : List (List Value)) (h : ∀ cs ∈ css, cs.length = 4) (i j : Nat) (hi : i < css.length) (hj : j < 4) : css.flatten[i * 4 + j]? = (css[i])[j]? := by
  induction css generalizing i with
  | nil => simp at hi
  | cons c css ih =>
    have hc := h c (by simp)
    rw [List.flatten_cons]
    cases i with
    | zero => rw [List.getElem?_append_left (by omega)]; simp
    | succ i =>
      rw [List.getElem?_append_right (by omega), hc, show (i + 1) * 4 + j - 4 = i * 4 + j by omega, ih (fun cs hcs => h cs (by simp [hcs])) i (by simpa using hi)]
      simp
/-- What Decode of an acknowledgement answers. -/
def ackDecV (l : List UInt8) : Ack × Int :=
  match decD l with
  | none => (zeroAck, 10)
  | some (.list ts) => if ts.length = 7 then (if (ackOf ts).formed = true ∧ (ackOf ts).enc = l then (ackOf ts, 0) else (zeroAck, 330)) else (zeroAck, 330)
  | some _ => (zeroAck, 330)
end Go.Proofs.YtjibmhmaoegcnaaDoor
namespace Go.Proofs.YtjibmhmaoegcnaaDoor
open Go.RowKit Go.Shelf
set_option linter.unusedVariables false
attribute [local go_sem ↓] Go.wp_at_zero Go.wp_at_succ
theorem results_adec (w' : World) (g : Nat) (tmps : Array Value) (a : Ack) (ha : a.ch.length = 32) (y : Int) (hp : tmps.getD 2 undef = .pointer (some ⟨g, 0, none⟩)) (hq : tmps.getD 3 undef = .int .i64 y) (hB : Blk w' g 27 a.cells) : (results Tryd.f11 tmps).run Tryd.prog w' = .ok (.tuple #[.agg a.cells.toArray, .int .i64 y]) w' := by
  have := results_row_tmp (P := Tryd.prog) (fn := Tryd.f11) rfl tmps w' g 27 a.cells.toArray (0, 0) _ hp hB Tryd.underlying27 rfl (by rw [List.size_toArray, a.cells_length ha]; kernel_rfl)
  rw [hq] at this
  exact this
set_option maxHeartbeats 1000000 in
set_option maxRecDepth 100000 in
/-- Where codec.Decode refuses. -/
theorem ackDec_none (C : World → Prop) (v : Value) (w : World) (hC : ∀ o, C (w.alloc o)) (hd : ∀ w, C w → Calls Tryd.prog 28 #[v] w fun e w' => DPost w none e w') :
    Calls Tryd.prog 11 #[v] w fun e w' => e = .returned (.tuple #[.agg zeroAck.cells.toArray, .int .i64 10]) ∧ Gr w none w' := by
  have hz : zeroAck.ch.length = 32 := rfl
  have hin0 : ((Tryd.prog).info? 27).map (·.size) = some zeroAck.cells.length := by rw [Ack.cells_length _ hz]; kernel_rfl
  go_enter Tryd.func11, Tryd.ntmps11
  go_upto_region 1 with fail
  have hZ := Blk.new w 27 zeroAck.cells
  have hG := (Gr.refl w none).alloc (.cells zeroAck.cells.toArray 27)
  change Code.wp _ _ _ _ (w.alloc (.cells zeroAck.cells.toArray 27))
  have hdW := hd _ (hC (.cells zeroAck.cells.toArray 27))
  generalize (w.alloc (.cells zeroAck.cells.toArray 27)) = W at *
  go_wp2_with (first
    | (go_at_call 28; refine hdW.mono ?_; rintro e w1 ⟨hG1, rfl⟩; have hZ1 := (hZ.grown hG1 (by simp)).alloc (.cells #[.int .i64 0, .int .i64 0, .string ⟨#[]⟩, .slice none 0 0] 51))
    | (refine wl_load_blk rfl 27 _ rfl w.heap.size zeroAck.cells _ _ hZ1 rfl Tryd.underlying27 rfl hin0 ?_)
    | (refine wl_store_blk rfl 27 _ _ rfl w.heap.size zeroAck.cells zeroAck.cells _ hZ1 rfl rfl hin0 rfl (Ack.cells_one _) ?_; intro w7 hZ7 hG7))
  refine bodyPost_ret (results_adec w7 w.heap.size _ zeroAck hz 10 rfl rfl hZ7) rfl ?_
  exact ⟨rfl, ((hG.trans hG1).alloc _).on hG7 (by intro b hb; cases hb; omega)⟩
set_option maxHeartbeats 1000000 in
set_option maxRecDepth 100000 in
/-- Where the value has not seven parts. -/
theorem ackDec_short (C : World → Prop) (v : Value) (w : World) (hC : ∀ o, C (w.alloc o)) (hd : ∀ w, C w → Calls Tryd.prog 28 #[v] w fun e w' => Gr w none w' ∧ ∃ k n s p m c, m ≠ 7 ∧ e = .returned (.tuple #[.agg #[.int .i64 k, .int .i64 n, .string s, .slice p m c], .int .i64 0])) :
    Calls Tryd.prog 11 #[v] w fun e w' => e = .returned (.tuple #[.agg zeroAck.cells.toArray, .int .i64 330]) ∧ Gr w none w' := by
  have hz : zeroAck.ch.length = 32 := rfl
  have hin0 : ((Tryd.prog).info? 27).map (·.size) = some zeroAck.cells.length := by rw [Ack.cells_length _ hz]; kernel_rfl
  go_enter Tryd.func11, Tryd.ntmps11
  go_upto_region 1 with fail
  have hZ := Blk.new w 27 zeroAck.cells
  have hG := (Gr.refl w none).alloc (.cells zeroAck.cells.toArray 27)
  change Code.wp _ _ _ _ (w.alloc (.cells zeroAck.cells.toArray 27))
  have hdW := hd _ (hC (.cells zeroAck.cells.toArray 27))
  generalize (w.alloc (.cells zeroAck.cells.toArray 27)) = W at *
  go_wp2_with (first
    | (go_at_call 28; refine hdW.mono ?_; rintro e w1 ⟨hG1, k, n, s, p, m, c, hm, rfl⟩; have hm7 : ¬ (m : Int) = 7 := (by omega); have hZ1 := (hZ.grown hG1 (by simp)).alloc (.cells #[.int .i64 k, .int .i64 n, .string s, .slice p m c] 51))
    | (refine wl_load_blk rfl 27 _ rfl w.heap.size zeroAck.cells _ _ hZ1 rfl Tryd.underlying27 rfl hin0 ?_)
    | (refine wl_store_blk rfl 27 _ _ rfl w.heap.size zeroAck.cells zeroAck.cells _ hZ1 rfl rfl hin0 rfl (Ack.cells_one _) ?_; intro w7 hZ7 hG7))
  refine bodyPost_ret (results_adec w7 w.heap.size _ zeroAck hz 330 rfl rfl hZ7) rfl ?_
  exact ⟨rfl, ((hG.trans hG1).alloc _).on hG7 (by intro b hb; cases hb; omega)⟩
end Go.Proofs.YtjibmhmaoegcnaaDoor
