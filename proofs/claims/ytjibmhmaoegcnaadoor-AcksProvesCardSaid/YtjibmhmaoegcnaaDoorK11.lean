/- Parts of a proof, joined by program: Sane, MoreV. -/
import Derived.Test.YtjibmhmaoegcnaaDoorK10
import Derived.ArgAppend
namespace Go.Proofs.YtjibmhmaoegcnaaDoor
open Go.RowKit Go.Shelf
set_option linter.unusedVariables false
set_option linter.unusedSimpArgs false
theorem ackDec_bytes (v : Value) (l : List UInt8) (w : World) (hv : Bytes w v l) (hl : l.length ≤ 1000000) :
    Calls Tryd.prog 11 #[v] w fun e w' => e = .returned (.tuple #[.agg (ackDecV l).1.cells.toArray, .int .i64 (ackDecV l).2]) ∧ Gr w none w' := by
  obtain ⟨b, o, cap, rfl, h1, h2, h3, h4⟩ := hv.ex
  exact ackDec_any b o cap l w h1 h2 h3 h4 hl
theorem public_good (x : Nat) (h0 : 1 ≤ x) (hx : x < 2305843009213688669) (w : World) : Calls Tryd.prog 20 #[.int .i64 x] w fun e w' => e = .returned (.tuple #[.int .i64 (powP 4 x : Nat), .int .i64 0]) ∧ Gr w none w' := by
  have hv : ValidK (x : Int) := ⟨by omega, by omega⟩
  have h := publicOf_any x w
  rw [if_pos hv, if_pos hv, expV_4 x hx] at h
  exact h
theorem enc_short (a : Ack) (ha : a.ch.length = 32) (hi : a.ints) : a.enc.length ≤ 1000000 := Nat.le_trans (encF_le _ (leaves_ok a _ ha hi (two_ok a hi)) (by simp [Ack.leaves])) (by omega)
theorem ok_int (n : Int) (h : 0 ≤ n ∧ n < 1000000) : (Leaf.int n).ok := by unfold Leaf.ok; omega
theorem info_mem : ∃ i z, (Tryd.prog).info? 47 = some i ∧ i.zero = some z ∧ i.size = 3 ∧ i.bytes = 24 ∧ z.cells.size = 3 := by
  have h : ((Tryd.prog).info? 47).map (fun i => (i.zero.map (·.cells.size), i.size, i.bytes)) = some (some 3, 3, 24) := by kernel_rfl
  cases hq : (Tryd.prog).info? 47 with
  | none => simp [hq] at h
  | some i =>
    simp [hq] at h
    obtain ⟨⟨z, hz, hz2⟩, h1, h2⟩ := h
    exact ⟨i, z, rfl, hz, h1, h2, hz2⟩
theorem own_row_at {w : World} {B s n : Nat} {e : TypeId} {v : Value} {xs : List Value} (hn : 0 < n) (h : w.ownsRow B e s v n xs) : ∃ g cap, v = .slice (some ⟨g, 0, none⟩) n cap ∧ g < w.heap.size ∧ At w g 0 xs := by
  obtain ⟨hl, ⟨rfl, h0⟩ | ⟨g, cap, cur, rfl, _, hb, h1, h2, h3, h4⟩⟩ := h
  · omega
  · refine ⟨g, cap, rfl, (Array.getElem?_eq_some_iff.1 hb).1, fun i hi => ?_⟩
    have : (cur.toList.take (n * s))[i]? = xs[i]? := by rw [h4]
    rw [List.getElem?_take_of_lt (by omega)] at this
    simp only [World.cell?, hb]
    rw [Nat.zero_add]
    simp at this ⊢
    rw [this]; simp [hi]
theorem cells_of_at {w : World} {b o : Nat} {cs : List Value} (h : At w b o cs) : ∀ (j : Nat) (u : Value), cs[j]? = some u → w.cell? ((⟨b, o, none⟩ : Addr).add j) = some u := by
  intro j u hj
  obtain ⟨hl, rfl⟩ := List.getElem?_eq_some_iff.1 hj
  rw [Addr.add_lit]; exact h j hl
/-- An append without room, at an operation. -/
theorem wp_append_more {P : Program} {o : Oper} {a : Act} {w : World} {K : Act → World → Prop} {Q : Exit → Act → World → Prop} (s x : Operand) (t : TypeId) (ho : o.op = .call { callee := .builtin .append, args := #[s, x], argTypes := #[t, t] })
    (e : TypeId) (i : TypeInfo) (z : Value) (size bytes : Nat) (ht : P.underlying t = some (.slice e)) (hi : P.info? e = some i) (hz : i.zero = some z) (hsize : i.size = size) (hby : i.bytes = bytes) (hzs : z.cells.size = size) (hsz : 0 < size)
    (b : Addr) (n cap : Nat) (olds : List Value) (hs : a.eval s = .slice (some b) n cap) (hlo : olds.length = n * size) (holds : ∀ j u, olds[j]? = some u → w.cell? (b.add j) = some u)
    (c : Addr) (m cc : Nat) (news : List Value) (hx : a.eval x = .slice (some c) m cc) (hl : news.length = m * size) (hnews : ∀ j u, news[j]? = some u → w.cell? (c.add j) = some u)
    (hg : cap < n + m) (h63 : n + m ≤ maxLen) (hbytes : (n + m) * bytes ≤ 140737488355328)
    (h : ∀ v' w', w'.ownsRow w.heap.size e size v' (n + m) (olds ++ news) → Gr w none w' → K (a.put o.dst v') w') : Oper.wp P o a w K Q := by
  obtain ⟨v', w', hr, h1, h2⟩ := run_append_arg_grows (P := P) w t o.type e i z size bytes ht hi hz hsize hby hzs hsz b n cap olds hlo holds c m cc news hl hnews hg h63 hbytes
  unfold Oper.wp execOp
  simp [ho, resolve, invoke, builtin, hs, hx, hr, Result.andThen]
  exact h v' w' h1 h2
/-- What stands when the examples are looked at. -/
structure SS (XX XA XZ XM GB : Nat) (A Z : Ack) (pub : Int) (w W : World) : Prop where
  gr : Gr w none W
  x : Blk W XX 27 A.cells
  a : Blk W XA 27 A.cells
  z : Blk W XZ 27 Z.cells
  m : Blk W XM 47 [.int .i64 2, .int .i64 0, .int .i64 pub]
  s : At W GB 0 [.int .i64 1]
theorem SS.drew {XX XA XZ XM GB : Nat} {A Z : Ack} {pub : Int} {w W : World} (h : SS XX XA XZ XM GB A Z pub w W) : SS XX XA XZ XM GB A Z pub w W.drew := ⟨h.gr.drew, h.x, h.a, h.z, h.m, h.s.grown ((Gr.refl W none).drew) (by simp)⟩
theorem SS.on {XX XA XZ XM GB : Nat} {A Z : Ack} {pub : Int} {w W W' : World} (h : SS XX XA XZ XM GB A Z pub w W) (k : Gr W none W') : SS XX XA XZ XM GB A Z pub w W' :=
  ⟨h.gr.trans k, h.x.grown k (by simp), h.a.grown k (by simp), h.z.grown k (by simp), h.m.grown k (by simp), h.s.grown k (by simp)⟩
theorem Blk.range {W : World} {b : Nat} {e : TypeId} {cs : List Value} (h : Blk W b e cs) : W.rangeAt b 0 cs := fun j v hv => by rw [Nat.zero_add, h.cell? j]; exact hv
theorem SS.all {XX XA XZ XM GB : Nat} {A Z : Ack} {pub : Int} {w W : World} (h : SS XX XA XZ XM GB A Z pub w W) : W.rangeAt XX 0 A.cells ∧ W.rangeAt XA 0 A.cells ∧ W.rangeAt XZ 0 Z.cells ∧ SS XX XA XZ XM GB A Z pub w W := ⟨h.x.range, h.a.range, h.z.range, h⟩
def saneE : Ent := ⟨4, (List.replicate 32 (0 : UInt8)).map B8 ++ [.slice none 0 0], true⟩
theorem saneE_fit : saneE.fit := ⟨rfl, by
  intro v hv
  simp only [saneE, List.mem_append, List.mem_map, List.mem_singleton] at hv
  rcases hv with ⟨_, _, rfl⟩ | rfl <;> rfl⟩
theorem OwnI.row {w : World} {B : Nat} {v : Value} {xs : List Int} (h : OwnI w B v xs) : ∃ p c b, v = .slice p xs.length c ∧ (xs = [] ∨ (p = some ⟨b, 0, none⟩ ∧ At w b 0 (xs.map I64))) := by
  obtain ⟨_, ⟨rfl, h0⟩ | ⟨g, cap, cur, rfl, _, hb, h1, h2, h3, h4⟩⟩ := h
  · exact ⟨none, 0, 0, by rw [h0], .inl (List.eq_nil_of_length_eq_zero h0)⟩
  · refine ⟨_, cap, g, rfl, .inr ⟨rfl, fun i hi => ?_⟩⟩
    simp only [List.length_map] at hi
    have : (cur.toList.take (xs.length * 1))[i]? = (xs.map I64)[i]? := by rw [h4]
    rw [List.getElem?_take_of_lt (by omega)] at this
    simp only [World.cell?, hb]
    rw [Nat.zero_add]
    simp at this ⊢
    rw [this]; simp [hi]
set_option maxHeartbeats 2000000 in
set_option maxRecDepth 100000 in
theorem sane_any (w : World) (hK : Laid w) : Calls Tryd.prog 8 #[] w fun e w' => e = .returned (.bool true) ∧ Gr w none w' := by
  have hz : zeroAck.ch.length = 32 := rfl
  have hm0 : makeV 16 0 0 0 (List.replicate 32 0) 5 = (zeroAck, 330) := by unfold makeV; rw [if_neg (by decide)]
  obtain ⟨r1, g1, hm1, hr1, hg1, hc1⟩ := makeV_good 1 2 3 4 (5 :: List.replicate 31 0) 6 (by decide) (by constructor <;> decide)
  obtain ⟨r2, g2, hm2, hr2, hg2, hc2⟩ := makeV_good 1 2 3 0 (List.replicate 32 0) 6 (by decide) (by constructor <;> decide)
  have hp6 := fun w => public_good 6 (by decide) (by decide) w
  rw [show ((6 : Int)).toNat = 6 from rfl] at hc1 hc2
  generalize ((powP 4 6 : Nat) : Int) = pub at *
  obtain ⟨A, hAe⟩ : ∃ A, A = Ack.mk 1 2 3 4 (5 :: List.replicate 31 0) r1 g1 := ⟨_, rfl⟩
  obtain ⟨Z, hZe⟩ : ∃ Z, Z = Ack.mk 1 2 3 0 (List.replicate 32 0) r2 g2 := ⟨_, rfl⟩
  rw [← hAe] at hm1 hc1
  rw [← hZe] at hm2 hc2
  have hAc : A.ch.length = 32 := by rw [hAe]; rfl
  have hZc : Z.ch.length = 32 := by rw [hZe]; rfl
  have hAi : A.ints := by rw [hAe]; exact ⟨ok_int 1 (by decide), ok_int 2 (by decide), ok_int 3 (by decide), ok_int 4 (by decide), hr1, hg1⟩
  have hZi : Z.ints := by rw [hZe]; exact ⟨ok_int 1 (by decide), ok_int 2 (by decide), ok_int 3 (by decide), ok_int 0 (by decide), hr2, hg2⟩
  have hAf : A.formed = true := by rw [hAe]; exact (by decide : (Ack.mk 1 2 3 4 (5 :: List.replicate 31 0) 0 0).formed = true)
  have hL1 := least_sane A pub (by rw [hAe]) (by rw [hAe]) (by rw [hAe]) (by rw [hAe]) hc1
  have hL2 := least_sane2 A pub (by rw [hAe]) (by rw [hAe]) (by rw [hAe]) (by rw [hAe]) hc1
  have hDe := ackDecV_enc A hAc hAi hAf
  clear hAe hZe
  have hin0 : ((Tryd.prog).info? 27).map (·.size) = some zeroAck.cells.length := by rw [Ack.cells_length _ hz]; kernel_rfl
  have hinA : ((Tryd.prog).info? 27).map (·.size) = some A.cells.length := by rw [Ack.cells_length _ hAc]; kernel_rfl
  have hinZ : ((Tryd.prog).info? 27).map (·.size) = some Z.cells.length := by rw [Ack.cells_length _ hZc]; kernel_rfl
  go_enter Tryd.func8, Tryd.ntmps8
  go_upto_region 2 with (first
    | (go_at_call 21; refine (ackMake_any 16 0 0 0 5 (List.replicate 32 0) w rfl (by unfold Ack.ints Leaf.ok; decide) hK).mono ?_; rintro e w1 ⟨rfl, hG1⟩; rw [hm0])
    | (refine wl_store_new rfl 27 _ _ rfl zeroAck.cells _ _ rfl rfl (by kernel_rfl) (by rw [Ack.cells_length _ hz]; rfl) (Ack.cells_one _) ?_))
  have hGa := hG1.alloc (.cells zeroAck.cells.toArray 27)
  change Code.wp _ _ _ _ (w1.alloc (.cells zeroAck.cells.toArray 27))
  generalize (w1.alloc (.cells zeroAck.cells.toArray 27)) = Wa at *
  generalize w1.heap.size = X1 at *
  have hKa := hK.new hGa
  clear hG1
  go_upto_region 3 with (first
    | (go_at_call 21; refine (ackMake_any 1 2 3 4 6 (5 :: List.replicate 31 0) Wa rfl (by unfold Ack.ints Leaf.ok; decide) hKa).mono ?_; rintro e w2 ⟨rfl, hG2⟩; rw [hm1])
    | (refine wl_store_new rfl 27 _ _ rfl A.cells _ _ rfl rfl (by kernel_rfl) (by rw [Ack.cells_length _ hAc]; rfl) (Ack.cells_one _) ?_))
  have hGb := (hGa.trans hG2).alloc (.cells A.cells.toArray 27)
  have hA := Blk.new w2 27 A.cells
  change Code.wp _ _ _ _ (w2.alloc (.cells A.cells.toArray 27))
  generalize (w2.alloc (.cells A.cells.toArray 27)) = Wb at *
  generalize w2.heap.size = XA at *
  have hKb := hK.new hGb
  clear hG2
  go_upto_region 4 with (first
    | (go_at_call 21; refine (ackMake_any 1 2 3 0 6 (List.replicate 32 0) Wb rfl (by unfold Ack.ints Leaf.ok; decide) hKb).mono ?_; rintro e w3 ⟨rfl, hG3⟩; rw [hm2])
    | (refine wl_store_new rfl 27 _ _ rfl Z.cells _ _ rfl rfl (by kernel_rfl) (by rw [Ack.cells_length _ hZc]; rfl) (Ack.cells_one _) ?_))
  have hGc := (hGb.trans hG3).alloc (.cells Z.cells.toArray 27)
  have hZ := Blk.new w3 27 Z.cells
  have hA3 := (hA.grown hG3 (by simp)).alloc (.cells Z.cells.toArray 27)
  change Code.wp _ _ _ _ (w3.alloc (.cells Z.cells.toArray 27))
  generalize (w3.alloc (.cells Z.cells.toArray 27)) = Wc at *
  generalize w3.heap.size = XZ at *
  clear hG3 hA
  go_upto_region 6 with (first
    | (go_at_call 20; refine (hp6 Wc).mono ?_; rintro e w4 ⟨rfl, hG4⟩; have hA4 := hA3.grown hG4 (by simp))
    | (refine wl_load_blk rfl 27 _ rfl XA A.cells _ _ hA4 rfl Tryd.underlying27 rfl hinA ?_)
    | (go_at_call 9; refine (ackEncode_any A w4 hAc hAi).mono ?_; intro e w5 hE5; obtain ⟨hG5, v5, rfl, hv5, hn5⟩ := hE5.yes hAf))
  have hB5 := hv5.bytes hn5
  have hGe := (hGc.trans hG4).trans hG5
  have hA5 := hA4.grown hG5 (by simp)
  have hZ5 := (hZ.grown hG4 (by simp)).grown hG5 (by simp)
  clear hE5 hv5 hn5 hA3 hA4 hG4 hG5 hZ
  go_upto_region 7 with (first
    | (go_at_call 11; refine (ackDec_bytes v5 A.enc w5 hB5 (enc_short A hAc hAi)).mono ?_; rintro e w6 ⟨rfl, hG6⟩; rw [hDe])
    | (refine wl_store_new rfl 27 _ _ rfl A.cells _ _ rfl rfl (by kernel_rfl) (by rw [Ack.cells_length _ hAc]; rfl) (Ack.cells_one _) ?_))
  have hX := Blk.new w6 27 A.cells
  have hGf := (hGe.trans hG6).alloc (.cells A.cells.toArray 27)
  have hA6 := (hA5.grown hG6 (by simp)).alloc (.cells A.cells.toArray 27)
  have hZ6 := (hZ5.grown hG6 (by simp)).alloc (.cells A.cells.toArray 27)
  change Code.wp _ _ _ _ (w6.alloc (.cells A.cells.toArray 27))
  generalize (w6.alloc (.cells A.cells.toArray 27)) = Wf at *
  generalize w6.heap.size = XX at *
  clear hG6 hA5 hZ5 hB5 hDe
  have hI7 := ackDecV_int 7 (ok_int 7 (by decide))
  go_upto_region 9 with (first
    | (go_at_call 16; refine (num_any 7 Wf).mono ?_; rintro e w7 ⟨rfl, hG7⟩)
    | (go_at_call 15; refine (encode_int 7 w7 (by decide) (by decide)).mono ?_; rintro e w8 ⟨v8, rfl, hv8, hn8, hG8⟩; have hB8 := hv8.bytes hn8)
    | (go_at_call 11; refine (ackDec_bytes v8 (Leaf.int 7).enc w8 hB8 (Nat.le_trans (enc_le (.int 7) (ok_int 7 (by decide))) (by omega))).mono ?_; rintro e w9 ⟨rfl, hG9⟩; rw [hI7])
    | (refine wl_store_new rfl 27 _ _ rfl zeroAck.cells _ _ rfl rfl (by kernel_rfl) (by rw [Ack.cells_length _ hz]; rfl) (Ack.cells_one _) ?_))
  have hg9 := (hG7.trans hG8).trans hG9
  have hGg := (hGf.trans hg9).alloc (.cells zeroAck.cells.toArray 27)
  have hX9 := (hX.grown hg9 (by simp)).alloc (.cells zeroAck.cells.toArray 27)
  have hA9 := (hA6.grown hg9 (by simp)).alloc (.cells zeroAck.cells.toArray 27)
  have hZ9 := (hZ6.grown hg9 (by simp)).alloc (.cells zeroAck.cells.toArray 27)
  change Code.wp _ _ _ _ (w9.alloc (.cells zeroAck.cells.toArray 27))
  generalize (w9.alloc (.cells zeroAck.cells.toArray 27)) = Wg at *
  generalize w9.heap.size = X9 at *
  clear hg9 hG9 hG8 hG7 hv8 hn8 hB8 hI7 hA6 hZ6 hX
  go_upto_region 10 with fail
  have hM := Blk.new Wg 47 [.int .i64 2, .int .i64 0, .int .i64 pub]
  have hGh := hGg.alloc (.cells #[.int .i64 2, .int .i64 0, .int .i64 pub] 47)
  have hX10 := hX9.alloc (.cells #[.int .i64 2, .int .i64 0, .int .i64 pub] 47)
  have hA10 := hA9.alloc (.cells #[.int .i64 2, .int .i64 0, .int .i64 pub] 47)
  have hZ10 := hZ9.alloc (.cells #[.int .i64 2, .int .i64 0, .int .i64 pub] 47)
  change Code.wp _ _ _ _ (Wg.alloc (.cells #[.int .i64 2, .int .i64 0, .int .i64 pub] 47))
  change Blk (Wg.alloc (.cells #[.int .i64 2, .int .i64 0, .int .i64 pub] 47)) _ _ _ at hM
  generalize (Wg.alloc (.cells #[.int .i64 2, .int .i64 0, .int .i64 pub] 47)) = Wh at *
  generalize Wg.heap.size = XM at *
  clear hX9 hA9 hZ9
  have hWr : ∀ W, Laid W → Calls Tryd.prog 14 #[.slice none 0 0, .int .i64 0, .int .i64 0, .slice none 0 0, .slice (some ⟨W.heap.size, 0, none⟩) 1 1] (W.alloc (.cells saneE.cells.toArray 45)) fun e w' => ∃ v, e = .returned v ∧ OwnI w' W.heap.size v [1] ∧ Gr (W.alloc (.cells saneE.cells.toArray 45)) none w' := by
    intro W hW
    have h := wrong_any none none (some ⟨W.heap.size, 0, none⟩) 0 0 W.heap.size 0 0 1 0 0 [] [] [saneE] (W.alloc (.cells saneE.cells.toArray 45)) (hW.new ((Gr.refl _ _).alloc _)) (by simp) (by simp) (by simp) (by simp) (.inl rfl) (.inl rfl)
      (by intro e he; simp at he; subst he; exact saneE_fit) (by simp) (.inr rfl) (by rw [World.size_alloc]; omega) (by have := at_new W saneE.cells 45; simpa using this)
    rw [wrong_sane saneE rfl rfl] at h
    exact h.mono fun e w' ⟨v, h1, h2, h3⟩ => ⟨v, h1, own_mono h2 (by rw [World.size_alloc]; omega), h3⟩
  go_upto_region 11 with (go_at_call 14; refine (hWr Wh (hK.new hGh)).mono ?_; rintro e w10 ⟨v10, rfl, hO10, hG10⟩)
  obtain ⟨p0, c0, GB, rfl, hS0⟩ := hO10.row
  have hS1 := (hS0.resolve_left (by simp))
  obtain ⟨rfl, hSw⟩ := hS1
  go_upto_region 13 with fail
  have hg10 : Gr Wh none w10 := ((Gr.refl Wh none).alloc (.cells saneE.cells.toArray 45)).trans hG10
  have hSS : SS XX XA XZ XM GB A Z pub w w10 := ⟨hGh.trans hg10, hX10.grown hg10 (by simp), hA10.grown hg10 (by simp), hZ10.grown hg10 (by simp), hM.grown hg10 (by simp), hSw⟩
  clear hS0 hO10 hG10 hg10 hX10 hA10 hZ10 hM hSw
  have hu := Tryd.underlying27
  have hbw := build_whole A hAc
  have h38 := A.cells_length hAc
  have h2ok : i64ok 2 := by unfold i64ok; decide
  have h3ok : i64ok 3 := by unfold i64ok; decide
  have hLn : ∀ W, Laid W → Calls Tryd.prog 19 #[.slice none 0 0, .int .i64 0, .int .i64 0, .slice none 0 0] W fun e w' => e = .returned (.int .i64 0) ∧ Gr W none w' := fun W hW =>
    least_any none none 0 0 0 0 0 0 [] [] W hW (by simp) (by simp) (by simp) (by simp) (.inl rfl) (.inl rfl)
  have hLa : ∀ W b, Laid W → b < W.heap.size → At W b 0 A.cells → XM < W.heap.size → At W XM 0 [.int .i64 2, .int .i64 0, .int .i64 pub] → Calls Tryd.prog 19 #[.slice (some ⟨XM, 0, none⟩) 1 1, .int .i64 1, .int .i64 3, .slice (some ⟨b, 0, none⟩) 1 1] W fun e w' => e = .returned (.int .i64 4) ∧ Gr W none w' := by
    intro W b hW hb hA hm hM
    have h := least_any (some ⟨XM, 0, none⟩) (some ⟨b, 0, none⟩) XM b 1 1 1 3 [⟨2, 0, pub⟩] [A] W hW (by intro a ha; simp at ha; subst ha; exact ⟨hAc, hAi⟩) (by simp) (by simp) (by intro m hm; simp at hm; subst hm; exact h2ok) (.inr ⟨rfl, hb, by simpa using hA⟩) (.inr ⟨rfl, hm, by simpa [Mem.cells] using hM⟩)
    rw [hL1] at h
    exact h
  have hLb : ∀ W b d c, Laid W → b < W.heap.size → At W b 0 A.cells → d < W.heap.size → At W d 0 [.int .i64 2, .int .i64 0, .int .i64 pub, .int .i64 3, .int .i64 0, .int .i64 4] → Calls Tryd.prog 19 #[.slice (some ⟨d, 0, none⟩) 2 c, .int .i64 1, .int .i64 3, .slice (some ⟨b, 0, none⟩) 1 1] W fun e w' => e = .returned (.int .i64 0) ∧ Gr W none w' := by
    intro W b d c hW hb hA hm hM
    have h := least_any (some ⟨d, 0, none⟩) (some ⟨b, 0, none⟩) d b c 1 1 3 [⟨2, 0, pub⟩, ⟨3, 0, 4⟩] [A] W hW (by intro a ha; simp at ha; subst ha; exact ⟨hAc, hAi⟩) (by simp) (by simp) (by intro m hm; simp at hm; exact hm.elim (fun e => by rw [e]; exact h2ok) (fun e => by rw [e]; exact h3ok)) (.inr ⟨rfl, hb, by simpa using hA⟩) (.inr ⟨rfl, hm, by simpa [Mem.cells] using hM⟩)
    rw [hL2] at h
    exact h
  clear hL1 hL2
  refine wp_region_held_drew (S := fun w' => w'.rangeAt XX 0 A.cells ∧ w'.rangeAt XA 0 A.cells ∧ w'.rangeAt XZ 0 Z.cells ∧ SS XX XA XZ XM GB A Z pub w w') (by kernel_rfl) hSS.drew.all (fun hS => ?_)
  refine wpAnyH_take (i := 0) (oi := { dst := some 94, op := _, type := _, pos := _, after := _, guard := _ }) (v := .agg A.cells.toArray) rfl (by kernel_rfl) (by kernel_rfl) (by kernel_rfl) (fun _ _ _ h => h) (yieldsIf_load_mid (by rfl) 27 _ rfl XX 0 (by rfl) A.cells _ (fun _ h => h.1) hu rfl hinA) hS ?r0_215
  simp only [Act.put, List.setIfInBounds_toArray, List.set_cons_zero, List.set_cons_succ]
  refine wpAnyH_take (i := 1) (oi := { dst := some 95, op := _, type := _, pos := _, after := _, guard := _ }) (v := .agg A.cells.toArray) rfl (by kernel_rfl) (by kernel_rfl) (by kernel_rfl) (fun _ _ _ h => h) (yieldsIf_load_mid (by rfl) 27 _ rfl XA 0 (by rfl) A.cells _ (fun _ h => h.2.1) hu rfl hinA) hS ?r1_217
  simp only [Act.put, List.setIfInBounds_toArray, List.set_cons_zero, List.set_cons_succ]
  refine wpAnyH_take (i := 2) (oi := { dst := some 96, op := _, type := _, pos := _, after := _, guard := _ }) (v := .bool true) rfl (by kernel_rfl) (by kernel_rfl) (by kernel_rfl) (fun _ _ _ h => h) (Or.inl ⟨by rfl, ?h2⟩) hS ?r2
  case h2 => intro w0 hw0; exact (exec_eql_ack w0 (.tmp 94) (.tmp 95) 27 rfl A A rfl rfl hAc hAc hAi hAi).trans (by rw [decide_eq_true rfl])
  simp only [Act.put, List.setIfInBounds_toArray, List.set_cons_zero, List.set_cons_succ]
  refine wpAnyH_take (i := 3) (oi := { dst := some 97, op := _, type := _, pos := _, after := _, guard := _ }) (v := ?v3_222) rfl (by kernel_rfl) (by kernel_rfl) (by kernel_rfl) (fun _ _ _ h => h) (Or.inl ⟨by rfl, ?h3_222⟩) hS ?r3_222
  case h3_222 => intro w0 hw0; obtain ⟨s0⟩ := hw0; go_simp; try with_reducible rfl
  simp only [Act.put, List.setIfInBounds_toArray, List.set_cons_zero, List.set_cons_succ]
  refine wpAnyH_take (i := 4) (oi := { dst := some 98, op := _, type := _, pos := _, after := _, guard := _ }) (v := .agg A.cells.toArray) rfl (by kernel_rfl) (by kernel_rfl) (by kernel_rfl) (fun _ _ _ h => h) (yieldsIf_load_mid (by rfl) 27 _ rfl XA 0 (by rfl) A.cells _ (fun _ h => h.2.1) hu rfl hinA) hS ?r4_225
  simp only [Act.put, List.setIfInBounds_toArray, List.set_cons_zero, List.set_cons_succ]
  refine wpAnyH_take (i := 5) (oi := { dst := some 99, op := _, type := _, pos := _, after := _, guard := _ }) (v := ?v5_227) rfl (by kernel_rfl) (by kernel_rfl) (by kernel_rfl) (fun _ _ _ h => h) (Or.inl ⟨by rfl, ?h5_227⟩) hS ?r5_227
  case h5_227 => intro w0 hw0; obtain ⟨s0⟩ := hw0; go_simp; try with_reducible rfl
  simp only [Act.put, List.setIfInBounds_toArray, List.set_cons_zero, List.set_cons_succ]
  refine wpAnyH_ready (rs := [6]) (by kernel_rfl) (by simp) ?_
  refine AllReadyH.cons (o := { dst := some 100, op := _, type := _, pos := _, after := _, guard := _ }) rfl (fun K hK' => ?_) AllReadyH.nil
  rw [if_pos (by rfl)]
  go_simp
  refine (ackCheck_any A pub _ hAc hAi (hK.new hSS.drew.gr)).mono ?_
  rintro e w11 ⟨rfl, hG11⟩
  rw [hc1]
  have hSa := hSS.drew.on hG11
  refine hK'.out _ _ hSa.all (fun hS2 => ?_)
  clear hK' K hS
  refine wpAnyH_take (i := 7) (oi := { dst := some 101, op := _, type := _, pos := _, after := _, guard := _ }) (v := ?v7_240) rfl (by kernel_rfl) (by kernel_rfl) (by kernel_rfl) (fun _ _ _ h => h) (Or.inl ⟨by rfl, ?h7_240⟩) hS2 ?r7_240
  case h7_240 => intro w0 hw0; obtain ⟨s0⟩ := hw0; go_simp; try with_reducible rfl
  simp only [Act.put, List.setIfInBounds_toArray, List.set_cons_zero, List.set_cons_succ]
  refine wpAnyH_take (i := 8) (oi := { dst := some 102, op := _, type := _, pos := _, after := _, guard := _ }) (v := ?v8_243) rfl (by kernel_rfl) (by kernel_rfl) (by kernel_rfl) (fun _ _ _ h => h) (Or.inl ⟨by rfl, ?h8_243⟩) hS2 ?r8_243
  case h8_243 => intro w0 hw0; obtain ⟨s0⟩ := hw0; go_simp; try with_reducible rfl
  simp only [Act.put, List.setIfInBounds_toArray, List.set_cons_zero, List.set_cons_succ]
  refine wpAnyH_take (i := 9) (oi := { dst := some 103, op := _, type := _, pos := _, after := _, guard := _ }) (v := ?v9_246) rfl (by kernel_rfl) (by kernel_rfl) (by kernel_rfl) (fun _ _ _ h => h) (Or.inl ⟨by rfl, ?h9_246⟩) hS2 ?r9_246
  case h9_246 => intro w0 hw0; obtain ⟨s0⟩ := hw0; go_simp; try with_reducible rfl
  simp only [Act.put, List.setIfInBounds_toArray, List.set_cons_zero, List.set_cons_succ]
  refine wpAnyH_take (i := 10) (oi := { dst := some 104, op := _, type := _, pos := _, after := _, guard := _ }) (v := .agg Z.cells.toArray) rfl (by kernel_rfl) (by kernel_rfl) (by kernel_rfl) (fun _ _ _ h => h) (yieldsIf_load_mid (by rfl) 27 _ rfl XZ 0 (by rfl) Z.cells _ (fun _ h => h.2.2.1) hu rfl hinZ) hS2 ?r10_249
  simp only [Act.put, List.setIfInBounds_toArray, List.set_cons_zero, List.set_cons_succ]
  refine wpAnyH_take (i := 11) (oi := { dst := some 105, op := _, type := _, pos := _, after := _, guard := _ }) (v := ?v11_251) rfl (by kernel_rfl) (by kernel_rfl) (by kernel_rfl) (fun _ _ _ h => h) (Or.inl ⟨by rfl, ?h11_251⟩) hS2 ?r11_251
  case h11_251 => intro w0 hw0; obtain ⟨s0⟩ := hw0; go_simp; try with_reducible rfl
  simp only [Act.put, List.setIfInBounds_toArray, List.set_cons_zero, List.set_cons_succ]
  refine wpAnyH_ready (rs := [12]) (by kernel_rfl) (by simp) ?_
  refine AllReadyH.cons (o := { dst := some 106, op := _, type := _, pos := _, after := _, guard := _ }) rfl (fun K hK' => ?_) AllReadyH.nil
  rw [if_pos (by rfl)]
  go_simp
  refine (ackCheck_any Z pub w11 hZc hZi (hK.new hSa.gr)).mono ?_
  rintro e w12 ⟨rfl, hG12⟩
  rw [hc2]
  have hSb := hSa.on hG12
  refine hK'.out _ _ hSb.all (fun hS3 => ?_)
  clear hK' K hS2
  refine wpAnyH_take (i := 13) (oi := { dst := some 107, op := _, type := _, pos := _, after := _, guard := _ }) (v := ?v13_264) rfl (by kernel_rfl) (by kernel_rfl) (by kernel_rfl) (fun _ _ _ h => h) (Or.inl ⟨by rfl, ?h13_264⟩) hS3 ?r13_264
  case h13_264 => intro w0 hw0; obtain ⟨s0⟩ := hw0; go_simp; try with_reducible rfl
  simp only [Act.put, List.setIfInBounds_toArray, List.set_cons_zero, List.set_cons_succ]
  refine wpAnyH_take (i := 14) (oi := { dst := some 108, op := _, type := _, pos := _, after := _, guard := _ }) (v := ?v14_267) rfl (by kernel_rfl) (by kernel_rfl) (by kernel_rfl) (fun _ _ _ h => h) (Or.inl ⟨by rfl, ?h14_267⟩) hS3 ?r14_267
  case h14_267 => intro w0 hw0; obtain ⟨s0⟩ := hw0; go_simp; try with_reducible rfl
  simp only [Act.put, List.setIfInBounds_toArray, List.set_cons_zero, List.set_cons_succ]
  refine wpAnyH_take (i := 15) (oi := { dst := some 109, op := _, type := _, pos := _, after := _, guard := _ }) (v := ?v15_270) rfl (by kernel_rfl) (by kernel_rfl) (by kernel_rfl) (fun _ _ _ h => h) (Or.inl ⟨by rfl, ?h15_270⟩) hS3 ?r15_270
  case h15_270 => intro w0 hw0; obtain ⟨s0⟩ := hw0; go_simp; try with_reducible rfl
  simp only [Act.put, List.setIfInBounds_toArray, List.set_cons_zero, List.set_cons_succ]
  refine wpAnyH_take (i := 16) (oi := { dst := some 110, op := _, type := _, pos := _, after := _, guard := _ }) (v := ?v16_273) rfl (by kernel_rfl) (by kernel_rfl) (by kernel_rfl) (fun _ _ _ h => h) (Or.inl ⟨by rfl, ?h16_273⟩) hS3 ?r16_273
  case h16_273 => intro w0 hw0; obtain ⟨s0⟩ := hw0; go_simp; try with_reducible rfl
  simp only [Act.put, List.setIfInBounds_toArray, List.set_cons_zero, List.set_cons_succ]
  refine wpAnyH_ready (rs := [17]) (by kernel_rfl) (by simp) ?_
  refine AllReadyH.cons (o := { dst := some 111, op := _, type := _, pos := _, after := _, guard := _ }) rfl (fun K hK' => ?_) AllReadyH.nil
  rw [if_pos (by rfl)]
  go_simp
  refine (ackCheck_any zeroAck 4 w12 hz zeroAck_ints (hK.new hSb.gr)).mono ?_
  rintro e w13 ⟨rfl, hG13⟩
  rw [check_zero 4]
  have hSc := hSb.on hG13
  refine hK'.out _ _ hSc.all (fun hS4 => ?_)
  clear hK' K hS3
  refine wpAnyH_take (i := 18) (oi := { dst := some 112, op := _, type := _, pos := _, after := _, guard := _ }) (v := ?v18_286) rfl (by kernel_rfl) (by kernel_rfl) (by kernel_rfl) (fun _ _ _ h => h) (Or.inl ⟨by rfl, ?h18_286⟩) hS4 ?r18_286
  case h18_286 => intro w0 hw0; obtain ⟨s0⟩ := hw0; go_simp; try with_reducible rfl
  simp only [Act.put, List.setIfInBounds_toArray, List.set_cons_zero, List.set_cons_succ]
  refine wpAnyH_take (i := 19) (oi := { dst := some 113, op := _, type := _, pos := _, after := _, guard := _ }) (v := ?v19_289) rfl (by kernel_rfl) (by kernel_rfl) (by kernel_rfl) (fun _ _ _ h => h) (Or.inl ⟨by rfl, ?h19_289⟩) hS4 ?r19_289
  case h19_289 => intro w0 hw0; obtain ⟨s0⟩ := hw0; go_simp; try with_reducible rfl
  simp only [Act.put, List.setIfInBounds_toArray, List.set_cons_zero, List.set_cons_succ]
  refine wpAnyH_take (i := 20) (oi := { dst := some 114, op := _, type := _, pos := _, after := _, guard := _ }) (v := ?v20_292) rfl (by kernel_rfl) (by kernel_rfl) (by kernel_rfl) (fun _ _ _ h => h) (Or.inl ⟨by rfl, ?h20_292⟩) hS4 ?r20_292
  case h20_292 => intro w0 hw0; obtain ⟨s0⟩ := hw0; go_simp; try with_reducible rfl
  simp only [Act.put, List.setIfInBounds_toArray, List.set_cons_zero, List.set_cons_succ]
  refine wpAnyH_ready (rs := [21]) (by kernel_rfl) (by simp) ?_
  refine AllReadyH.cons (o := { dst := some 115, op := _, type := _, pos := _, after := _, guard := _ }) rfl (fun K hK' => ?_) AllReadyH.nil
  rw [if_pos (by rfl)]
  go_simp
  refine (hLn w13 (hK.new hSc.gr)).mono ?_
  rintro e w14 ⟨rfl, hG14⟩
  have hSd := hSc.on hG14
  refine hK'.out _ _ hSd.all (fun hS5 => ?_)
  clear hK' K hS4
  refine wpAnyH_take (i := 22) (oi := { dst := some 116, op := _, type := _, pos := _, after := _, guard := _ }) (v := ?v22_304) rfl (by kernel_rfl) (by kernel_rfl) (by kernel_rfl) (fun _ _ _ h => h) (Or.inl ⟨by rfl, ?h22_304⟩) hS5 ?r22_304
  case h22_304 => intro w0 hw0; obtain ⟨s0⟩ := hw0; go_simp; try with_reducible rfl
  simp only [Act.put, List.setIfInBounds_toArray, List.set_cons_zero, List.set_cons_succ]
  refine wpAnyH_take (i := 23) (oi := { dst := some 117, op := _, type := _, pos := _, after := _, guard := _ }) (v := ?v23_307) rfl (by kernel_rfl) (by kernel_rfl) (by kernel_rfl) (fun _ _ _ h => h) (Or.inl ⟨by rfl, ?h23_307⟩) hS5 ?r23_307
  case h23_307 => intro w0 hw0; obtain ⟨s0⟩ := hw0; go_simp; try with_reducible rfl
  simp only [Act.put, List.setIfInBounds_toArray, List.set_cons_zero, List.set_cons_succ]
  refine wpAnyH_take (i := 24) (oi := { dst := some 118, op := _, type := _, pos := _, after := _, guard := _ }) (v := ?v24_310) rfl (by kernel_rfl) (by kernel_rfl) (by kernel_rfl) (fun _ _ _ h => h) (Or.inl ⟨by rfl, ?h24_310⟩) hS5 ?r24_310
  case h24_310 => intro w0 hw0; obtain ⟨s0⟩ := hw0; go_simp; try with_reducible rfl
  simp only [Act.put, List.setIfInBounds_toArray, List.set_cons_zero, List.set_cons_succ]
  refine wpAnyH_take (i := 25) (oi := { dst := some 119, op := _, type := _, pos := _, after := _, guard := _ }) (v := ?v25_313) rfl (by kernel_rfl) (by kernel_rfl) (by kernel_rfl) (fun _ _ _ h => h) (Or.inl ⟨by rfl, ?h25_313⟩) hS5 ?r25_313
  case h25_313 => intro w0 hw0; obtain ⟨s0⟩ := hw0; go_simp; try with_reducible rfl
  simp only [Act.put, List.setIfInBounds_toArray, List.set_cons_zero, List.set_cons_succ]
  refine wpAnyH_take (i := 26) (oi := { dst := some 120, op := _, type := _, pos := _, after := _, guard := _ }) (v := .agg A.cells.toArray) rfl (by kernel_rfl) (by kernel_rfl) (by kernel_rfl) (fun _ _ _ h => h) (yieldsIf_load_mid (by rfl) 27 _ rfl XA 0 (by rfl) A.cells _ (fun _ h => h.2.1) hu rfl hinA) hS5 ?r26_316
  simp only [Act.put, List.setIfInBounds_toArray, List.set_cons_zero, List.set_cons_succ]
  refine wpAnyH_ready (rs := [27]) (by kernel_rfl) (by simp) ?_
  refine AllReadyH.cons (o := { dst := some 121, op := _, type := _, pos := _, after := _, guard := _ }) rfl (fun K hK' => ?_) AllReadyH.nil
  rw [if_pos (by rfl)]
  go_simp
  refine hK'.out _ _ (hSd.on ((Gr.refl w14 none).alloc (.cells A.cells.toArray 27))).all (fun hS6 => ?_)
  clear hK' K hS5
  have hSe := hSd.on ((Gr.refl w14 none).alloc (.cells A.cells.toArray 27))
  have hA27 : At (w14.alloc (.cells A.cells.toArray 27)) w14.heap.size 0 A.cells := at_new w14 A.cells 27
  refine wpAnyH_ready (rs := [28]) (by kernel_rfl) (by simp) ?_
  refine AllReadyH.cons (o := { dst := some 122, op := _, type := _, pos := _, after := _, guard := _ }) rfl (fun K hK' => ?_) AllReadyH.nil
  rw [if_pos (by rfl)]
  go_simp
  refine (hLa (w14.alloc (.cells A.cells.toArray 27)) w14.heap.size (hK.new hSe.gr) (by rw [World.size_alloc]; omega) hA27 hSe.m.lt hSe.m.at0).mono ?_
  rintro e w15 ⟨rfl, hG15⟩
  have hSf := hSe.on hG15
  refine hK'.out _ _ hSf.all (fun hS7 => ?_)
  clear hK' K hS6
  refine wpAnyH_take (i := 29) (oi := { dst := some 123, op := _, type := _, pos := _, after := _, guard := _ }) (v := ?v29_335) rfl (by kernel_rfl) (by kernel_rfl) (by kernel_rfl) (fun _ _ _ h => h) (Or.inl ⟨by rfl, ?h29_335⟩) hS7 ?r29_335
  case h29_335 => intro w0 hw0; obtain ⟨s0⟩ := hw0; go_simp; try with_reducible rfl
  simp only [Act.put, List.setIfInBounds_toArray, List.set_cons_zero, List.set_cons_succ]
  refine wpAnyH_take (i := 30) (oi := { dst := some 124, op := _, type := _, pos := _, after := _, guard := _ }) (v := ?v30_338) rfl (by kernel_rfl) (by kernel_rfl) (by kernel_rfl) (fun _ _ _ h => h) (Or.inl ⟨by rfl, ?h30_338⟩) hS7 ?r30_338
  case h30_338 => intro w0 hw0; obtain ⟨s0⟩ := hw0; go_simp; try with_reducible rfl
  simp only [Act.put, List.setIfInBounds_toArray, List.set_cons_zero, List.set_cons_succ]
  refine wpAnyH_take (i := 31) (oi := { dst := some 125, op := _, type := _, pos := _, after := _, guard := _ }) (v := ?v31_341) rfl (by kernel_rfl) (by kernel_rfl) (by kernel_rfl) (fun _ _ _ h => h) (Or.inl ⟨by rfl, ?h31_341⟩) hS7 ?r31_341
  case h31_341 => intro w0 hw0; obtain ⟨s0⟩ := hw0; go_simp; try with_reducible rfl
  simp only [Act.put, List.setIfInBounds_toArray, List.set_cons_zero, List.set_cons_succ]
  refine wpAnyH_take (i := 32) (oi := { dst := some 126, op := _, type := _, pos := _, after := _, guard := _ }) (v := ?v32_344) rfl (by kernel_rfl) (by kernel_rfl) (by kernel_rfl) (fun _ _ _ h => h) (Or.inl ⟨by rfl, ?h32_344⟩) hS7 ?r32_344
  case h32_344 => intro w0 hw0; obtain ⟨s0⟩ := hw0; go_simp; try with_reducible rfl
  simp only [Act.put, List.setIfInBounds_toArray, List.set_cons_zero, List.set_cons_succ]
  refine wpAnyH_take (i := 33) (oi := { dst := some 127, op := _, type := _, pos := _, after := _, guard := _ }) (v := ?v33_347) rfl (by kernel_rfl) (by kernel_rfl) (by kernel_rfl) (fun _ _ _ h => h) (Or.inl ⟨by rfl, ?h33_347⟩) hS7 ?r33_347
  case h33_347 => intro w0 hw0; obtain ⟨s0⟩ := hw0; go_simp; try with_reducible rfl
  simp only [Act.put, List.setIfInBounds_toArray, List.set_cons_zero, List.set_cons_succ]
  refine wpAnyH_take (i := 36) (oi := { dst := some 130, op := _, type := _, pos := _, after := _, guard := _ }) (v := .agg A.cells.toArray) rfl (by kernel_rfl) (by kernel_rfl) (by kernel_rfl) (fun _ _ _ h => h) (yieldsIf_load_mid (by rfl) 27 _ rfl XA 0 (by rfl) A.cells _ (fun _ h => h.2.1) hu rfl hinA) hS7 ?r36_350
  simp only [Act.put, List.setIfInBounds_toArray, List.set_cons_zero, List.set_cons_succ]
  obtain ⟨im, zm, hm1, hm2, hm3, hm4, hm5⟩ := info_mem
  clear hS7 hSe hSd hSc hSb hSa hSS hA27
  refine wpAnyH_ready (rs := [34, 37]) (by kernel_rfl) (by simp) ?_
  refine AllReadyH.cons (o := { dst := some 128, op := _, type := _, pos := _, after := _, guard := _ }) rfl (fun K hK' => ?_) (AllReadyH.cons (o := { dst := some 131, op := _, type := _, pos := _, after := _, guard := _ }) rfl (fun K hK' => ?_) AllReadyH.nil)
  · rw [if_pos (by rfl)]
    go_simp
    have hSk := hSf.on ((Gr.refl w15 none).alloc (.cells #[.int .i64 3, .int .i64 0, .int .i64 4] 47))
    have hAm := at_new w15 [.int .i64 3, .int .i64 0, .int .i64 4] 47
    refine hK'.out _ _ hSk.all (fun hS8 => ?_)
    clear hK' K
    change wpAnyH _ _ _ _ _ _ _ _ (w15.alloc (.cells #[.int .i64 3, .int .i64 0, .int .i64 4] 47))
    generalize (w15.alloc (.cells #[.int .i64 3, .int .i64 0, .int .i64 4] 47)) = Wk at *
    generalize w15.heap.size = bm at *
    refine wpAnyH_ready (rs := [35, 37]) (by kernel_rfl) (by simp) ?_
    refine AllReadyH.cons (o := { dst := some 129, op := _, type := _, pos := _, after := _, guard := _ }) rfl (fun K hK' => ?_) (AllReadyH.cons (o := { dst := some 131, op := _, type := _, pos := _, after := _, guard := _ }) rfl (fun K hK' => ?_) AllReadyH.nil)
    · rw [if_pos (by rfl)]
      refine wp_append_more (.tmp 126) (.tmp 128) 37 rfl 47 im zm 3 24 Tryd.underlying37 hm1 hm2 hm3 hm4 hm5 (by decide) ⟨XM, 0, none⟩ 1 1 [.int .i64 2, .int .i64 0, .int .i64 pub] rfl rfl (cells_of_at hSk.m.at0) ⟨bm, 0, none⟩ 1 1 [.int .i64 3, .int .i64 0, .int .i64 4] rfl rfl (cells_of_at hAm) (by omega) (by decide) (by decide) (fun v9 W9 hO9 hG9 => ?_)
      obtain ⟨d9, c9, rfl, hd9, hM9⟩ := own_row_at (by decide) hO9
      have hSq := hSk.on hG9
      refine hK'.out _ _ hSq.all (fun hS9 => ?_)
      clear hK' K
      refine wpAnyH_ready (rs := [37]) (by kernel_rfl) (by simp) ?_
      refine AllReadyH.cons (o := { dst := some 131, op := _, type := _, pos := _, after := _, guard := _ }) rfl (fun K hK' => ?_) AllReadyH.nil
      rw [if_pos (by rfl)]
      go_simp
      have hSr := hSq.on ((Gr.refl W9 none).alloc (.cells A.cells.toArray 27))
      have hA9 : At (W9.alloc (.cells A.cells.toArray 27)) W9.heap.size 0 A.cells := at_new W9 A.cells 27
      have hd9 : d9 < (W9.alloc (.cells A.cells.toArray 27)).heap.size := by rw [World.size_alloc]; omega
      have hM9 := hM9.grown ((Gr.refl W9 none).alloc (.cells A.cells.toArray 27)) (by simp)
      refine hK'.out _ _ hSr.all (fun hSA => ?_)
      clear hK' K
      refine wpAnyH_ready (rs := [38]) (by kernel_rfl) (by simp) ?_
      refine AllReadyH.cons (o := { dst := some 132, op := _, type := _, pos := _, after := _, guard := _ }) rfl (fun K hK' => ?_) AllReadyH.nil
      rw [if_pos (by rfl)]
      go_simp
      refine (hLb (W9.alloc (.cells A.cells.toArray 27)) W9.heap.size _ _ (hK.new hSr.gr) (by rw [World.size_alloc]; omega) hA9 hd9 hM9).mono ?_
      rintro e w18 ⟨rfl, hG18⟩
      have hSg := hSr.on hG18
      refine hK'.out _ _ hSg.all (fun hSB => ?_)
      clear hK' K
      refine wpAnyH_take (i := 39) (oi := { dst := some 133, op := _, type := _, pos := _, after := _, guard := _ }) (v := ?v39_392) rfl (by kernel_rfl) (by kernel_rfl) (by kernel_rfl) (fun _ _ _ h => h) (Or.inl ⟨by rfl, ?h39_392⟩) hSB ?r39_392
      case h39_392 => intro w0 hw0; obtain ⟨s0⟩ := hw0; go_simp; try with_reducible rfl
      simp only [Act.put, List.setIfInBounds_toArray, List.set_cons_zero, List.set_cons_succ]
      refine wpAnyH_take (i := 40) (oi := { dst := some 134, op := _, type := _, pos := _, after := _, guard := _ }) (v := ?v40_395) rfl (by kernel_rfl) (by kernel_rfl) (by kernel_rfl) (fun _ _ _ h => h) (Or.inl ⟨by rfl, ?h40_395⟩) hSB ?r40_395
      case h40_395 => intro w0 hw0; obtain ⟨s0⟩ := hw0; go_simp; try with_reducible rfl
      simp only [Act.put, List.setIfInBounds_toArray, List.set_cons_zero, List.set_cons_succ]
      refine wpAnyH_take (i := 41) (oi := { dst := some 135, op := _, type := _, pos := _, after := _, guard := _ }) (v := ?v41_398) rfl (by kernel_rfl) (by kernel_rfl) (by kernel_rfl) (fun _ _ _ h => h) (Or.inl ⟨by rfl, ?h41_398⟩) hSB ?r41_398
      case h41_398 => intro w0 hw0; obtain ⟨s0⟩ := hw0; go_simp; try with_reducible rfl
      simp only [Act.put, List.setIfInBounds_toArray, List.set_cons_zero, List.set_cons_succ]
      refine wpAnyH_take (i := 42) (oi := { dst := some 136, op := _, type := _, pos := _, after := _, guard := _ }) (v := ?v42_401) rfl (by kernel_rfl) (by kernel_rfl) (by kernel_rfl) (fun _ _ _ h => h) (Or.inl ⟨by rfl, ?h42_401⟩) hSB ?r42_401
      case h42_401 => intro w0 hw0; obtain ⟨s0⟩ := hw0; go_simp; try with_reducible rfl
      simp only [Act.put, List.setIfInBounds_toArray, List.set_cons_zero, List.set_cons_succ]
      refine wpAnyH_ready (rs := [43]) (by kernel_rfl) (by simp) ?_
      refine AllReadyH.cons (o := { dst := some 137, op := _, type := _, pos := _, after := _, guard := _ }) rfl (fun K hK' => ?_) AllReadyH.nil
      rw [if_pos (by rfl)]
      go_simp
      have hSh := hSg.on ((Gr.refl w18 none).alloc (.cells #[.int .i64 1] 3))
      refine hK'.out _ _ hSh.all (fun hSC => ?_)
      clear hK' K hSB
      refine wpAnyH_ready (rs := [44]) (by kernel_rfl) (by simp) ?_
      refine AllReadyH.cons (o := { dst := some 138, op := _, type := _, pos := _, after := _, guard := _ }) rfl (fun K hK' => ?_) AllReadyH.nil
      rw [if_pos (by rfl)]
      go_simp
      refine (same_any (some ⟨GB, 0, none⟩) (some ⟨w18.heap.size, 0, none⟩) GB w18.heap.size c0 1 [1] [1] (w18.alloc (.cells #[.int .i64 1] 3)) (by simp) (by simp) (.inr ⟨rfl, hSh.s⟩) (.inr ⟨rfl, at_new w18 [.int .i64 1] 3⟩)).mono ?_
      rintro e w19 ⟨rfl, hG19⟩
      rw [decide_eq_true rfl]
      refine hK'.out _ _ (hSh.on hG19).all (fun hSD => ?_)
      clear hK' K hSC
      refine wpAnyH_take (i := 45) (oi := { dst := some 139, op := _, type := _, pos := _, after := _, guard := _ }) (v := ?v45_420) rfl (by kernel_rfl) (by kernel_rfl) (by kernel_rfl) (fun _ _ _ h => h) (Or.inl ⟨by rfl, ?h45_420⟩) hSD ?r45_420
      case h45_420 => intro w0 hw0; obtain ⟨s0⟩ := hw0; go_simp; try with_reducible rfl
      simp only [Act.put, List.setIfInBounds_toArray, List.set_cons_zero, List.set_cons_succ]
      refine wpAnyH_take (i := 46) (oi := { dst := some 0, op := _, type := _, pos := _, after := _, guard := _ }) (v := ?v46_423) rfl (by kernel_rfl) (by kernel_rfl) (by kernel_rfl) (fun _ _ _ h => h) (Or.inl ⟨by rfl, ?h46_423⟩) hSD ?r46_423
      case h46_423 => intro w0 hw0; obtain ⟨s0⟩ := hw0; go_simp; try with_reducible rfl
      simp only [Act.put, List.setIfInBounds_toArray, List.set_cons_zero, List.set_cons_succ]
      refine wpAnyH_done (by kernel_rfl) ?_ _
      go_wp2_with fail
      go_ret
      exact ⟨rfl, (hSh.on hG19).gr⟩
    · rw [if_pos (by rfl)]
      go_simp
      have hSr := hSk.on ((Gr.refl Wk none).alloc (.cells A.cells.toArray 27))
      have hA9 : At (Wk.alloc (.cells A.cells.toArray 27)) Wk.heap.size 0 A.cells := at_new Wk A.cells 27
      have hAm := hAm.grown ((Gr.refl Wk none).alloc (.cells A.cells.toArray 27)) (by simp)
      have hlt9 : Wk.heap.size < (Wk.alloc (.cells A.cells.toArray 27)).heap.size := by rw [World.size_alloc]; omega
      refine hK'.out _ _ hSr.all (fun hSA => ?_)
      clear hK' K
      refine wpAnyH_ready (rs := [35]) (by kernel_rfl) (by simp) ?_
      refine AllReadyH.cons (o := { dst := some 129, op := _, type := _, pos := _, after := _, guard := _ }) rfl (fun K hK' => ?_) AllReadyH.nil
      rw [if_pos (by rfl)]
      refine wp_append_more (.tmp 126) (.tmp 128) 37 rfl 47 im zm 3 24 Tryd.underlying37 hm1 hm2 hm3 hm4 hm5 (by decide) ⟨XM, 0, none⟩ 1 1 [.int .i64 2, .int .i64 0, .int .i64 pub] rfl rfl (cells_of_at hSr.m.at0) ⟨bm, 0, none⟩ 1 1 [.int .i64 3, .int .i64 0, .int .i64 4] rfl rfl (cells_of_at hAm) (by omega) (by decide) (by decide) (fun v9 W9 hO9 hG9 => ?_)
      obtain ⟨d9, c9, rfl, hd9, hM9⟩ := own_row_at (by decide) hO9
      have hSq := hSr.on hG9
      have hA9 := hA9.grown hG9 (by simp)
      have hlt9 := Nat.lt_of_lt_of_le hlt9 hG9.size
      refine hK'.out _ _ hSq.all (fun hSA2 => ?_)
      clear hK' K
      refine wpAnyH_ready (rs := [38]) (by kernel_rfl) (by simp) ?_
      refine AllReadyH.cons (o := { dst := some 132, op := _, type := _, pos := _, after := _, guard := _ }) rfl (fun K hK' => ?_) AllReadyH.nil
      rw [if_pos (by rfl)]
      go_simp
      refine (hLb W9 Wk.heap.size _ _ (hK.new hSq.gr) hlt9 hA9 hd9 hM9).mono ?_
      rintro e w18 ⟨rfl, hG18⟩
      have hSg := hSq.on hG18
      refine hK'.out _ _ hSg.all (fun hSB => ?_)
      clear hK' K
      refine wpAnyH_take (i := 39) (oi := { dst := some 133, op := _, type := _, pos := _, after := _, guard := _ }) (v := ?v39_457) rfl (by kernel_rfl) (by kernel_rfl) (by kernel_rfl) (fun _ _ _ h => h) (Or.inl ⟨by rfl, ?h39_457⟩) hSB ?r39_457
      case h39_457 => intro w0 hw0; obtain ⟨s0⟩ := hw0; go_simp; try with_reducible rfl
      simp only [Act.put, List.setIfInBounds_toArray, List.set_cons_zero, List.set_cons_succ]
      refine wpAnyH_take (i := 40) (oi := { dst := some 134, op := _, type := _, pos := _, after := _, guard := _ }) (v := ?v40_460) rfl (by kernel_rfl) (by kernel_rfl) (by kernel_rfl) (fun _ _ _ h => h) (Or.inl ⟨by rfl, ?h40_460⟩) hSB ?r40_460
      case h40_460 => intro w0 hw0; obtain ⟨s0⟩ := hw0; go_simp; try with_reducible rfl
      simp only [Act.put, List.setIfInBounds_toArray, List.set_cons_zero, List.set_cons_succ]
      refine wpAnyH_take (i := 41) (oi := { dst := some 135, op := _, type := _, pos := _, after := _, guard := _ }) (v := ?v41_463) rfl (by kernel_rfl) (by kernel_rfl) (by kernel_rfl) (fun _ _ _ h => h) (Or.inl ⟨by rfl, ?h41_463⟩) hSB ?r41_463
      case h41_463 => intro w0 hw0; obtain ⟨s0⟩ := hw0; go_simp; try with_reducible rfl
      simp only [Act.put, List.setIfInBounds_toArray, List.set_cons_zero, List.set_cons_succ]
      refine wpAnyH_take (i := 42) (oi := { dst := some 136, op := _, type := _, pos := _, after := _, guard := _ }) (v := ?v42_466) rfl (by kernel_rfl) (by kernel_rfl) (by kernel_rfl) (fun _ _ _ h => h) (Or.inl ⟨by rfl, ?h42_466⟩) hSB ?r42_466
      case h42_466 => intro w0 hw0; obtain ⟨s0⟩ := hw0; go_simp; try with_reducible rfl
      simp only [Act.put, List.setIfInBounds_toArray, List.set_cons_zero, List.set_cons_succ]
      refine wpAnyH_ready (rs := [43]) (by kernel_rfl) (by simp) ?_
      refine AllReadyH.cons (o := { dst := some 137, op := _, type := _, pos := _, after := _, guard := _ }) rfl (fun K hK' => ?_) AllReadyH.nil
      rw [if_pos (by rfl)]
      go_simp
      have hSh := hSg.on ((Gr.refl w18 none).alloc (.cells #[.int .i64 1] 3))
      refine hK'.out _ _ hSh.all (fun hSC => ?_)
      clear hK' K hSB
      refine wpAnyH_ready (rs := [44]) (by kernel_rfl) (by simp) ?_
      refine AllReadyH.cons (o := { dst := some 138, op := _, type := _, pos := _, after := _, guard := _ }) rfl (fun K hK' => ?_) AllReadyH.nil
      rw [if_pos (by rfl)]
      go_simp
      refine (same_any (some ⟨GB, 0, none⟩) (some ⟨w18.heap.size, 0, none⟩) GB w18.heap.size c0 1 [1] [1] (w18.alloc (.cells #[.int .i64 1] 3)) (by simp) (by simp) (.inr ⟨rfl, hSh.s⟩) (.inr ⟨rfl, at_new w18 [.int .i64 1] 3⟩)).mono ?_
      rintro e w19 ⟨rfl, hG19⟩
      rw [decide_eq_true rfl]
      refine hK'.out _ _ (hSh.on hG19).all (fun hSD => ?_)
      clear hK' K hSC
      refine wpAnyH_take (i := 45) (oi := { dst := some 139, op := _, type := _, pos := _, after := _, guard := _ }) (v := ?v45_485) rfl (by kernel_rfl) (by kernel_rfl) (by kernel_rfl) (fun _ _ _ h => h) (Or.inl ⟨by rfl, ?h45_485⟩) hSD ?r45_485
      case h45_485 => intro w0 hw0; obtain ⟨s0⟩ := hw0; go_simp; try with_reducible rfl
      simp only [Act.put, List.setIfInBounds_toArray, List.set_cons_zero, List.set_cons_succ]
      refine wpAnyH_take (i := 46) (oi := { dst := some 0, op := _, type := _, pos := _, after := _, guard := _ }) (v := ?v46_488) rfl (by kernel_rfl) (by kernel_rfl) (by kernel_rfl) (fun _ _ _ h => h) (Or.inl ⟨by rfl, ?h46_488⟩) hSD ?r46_488
      case h46_488 => intro w0 hw0; obtain ⟨s0⟩ := hw0; go_simp; try with_reducible rfl
      simp only [Act.put, List.setIfInBounds_toArray, List.set_cons_zero, List.set_cons_succ]
      refine wpAnyH_done (by kernel_rfl) ?_ _
      go_wp2_with fail
      go_ret
      exact ⟨rfl, (hSh.on hG19).gr⟩
  · rw [if_pos (by rfl)]
    go_simp
    have hSk := hSf.on ((Gr.refl w15 none).alloc (.cells A.cells.toArray 27))
    have hA9 : At (w15.alloc (.cells A.cells.toArray 27)) w15.heap.size 0 A.cells := at_new w15 A.cells 27
    have hlt9 : w15.heap.size < (w15.alloc (.cells A.cells.toArray 27)).heap.size := by rw [World.size_alloc]; omega
    refine hK'.out _ _ hSk.all (fun hS8 => ?_)
    clear hK' K
    change wpAnyH _ _ _ _ _ _ _ _ (w15.alloc (.cells A.cells.toArray 27))
    generalize (w15.alloc (.cells A.cells.toArray 27)) = Wk at *
    generalize w15.heap.size = ba at *
    refine wpAnyH_ready (rs := [34]) (by kernel_rfl) (by simp) ?_
    refine AllReadyH.cons (o := { dst := some 128, op := _, type := _, pos := _, after := _, guard := _ }) rfl (fun K hK' => ?_) AllReadyH.nil
    rw [if_pos (by rfl)]
    go_simp
    have hSl := hSk.on ((Gr.refl Wk none).alloc (.cells #[.int .i64 3, .int .i64 0, .int .i64 4] 47))
    have hAm := at_new Wk [.int .i64 3, .int .i64 0, .int .i64 4] 47
    have hA9 := hA9.grown ((Gr.refl Wk none).alloc (.cells #[.int .i64 3, .int .i64 0, .int .i64 4] 47)) (by simp)
    have hlt9 : ba < (Wk.alloc (.cells #[.int .i64 3, .int .i64 0, .int .i64 4] 47)).heap.size := by rw [World.size_alloc]; omega
    refine hK'.out _ _ hSl.all (fun hSA => ?_)
    clear hK' K
    refine wpAnyH_ready (rs := [35]) (by kernel_rfl) (by simp) ?_
    refine AllReadyH.cons (o := { dst := some 129, op := _, type := _, pos := _, after := _, guard := _ }) rfl (fun K hK' => ?_) AllReadyH.nil
    rw [if_pos (by rfl)]
    refine wp_append_more (.tmp 126) (.tmp 128) 37 rfl 47 im zm 3 24 Tryd.underlying37 hm1 hm2 hm3 hm4 hm5 (by decide) ⟨XM, 0, none⟩ 1 1 [.int .i64 2, .int .i64 0, .int .i64 pub] rfl rfl (cells_of_at hSl.m.at0) ⟨Wk.heap.size, 0, none⟩ 1 1 [.int .i64 3, .int .i64 0, .int .i64 4] rfl rfl (cells_of_at hAm) (by omega) (by decide) (by decide) (fun v9 W9 hO9 hG9 => ?_)
    obtain ⟨d9, c9, rfl, hd9, hM9⟩ := own_row_at (by decide) hO9
    have hSq := hSl.on hG9
    have hA9 := hA9.grown hG9 (by simp)
    have hlt9 := Nat.lt_of_lt_of_le hlt9 hG9.size
    refine hK'.out _ _ hSq.all (fun hSA2 => ?_)
    clear hK' K
    refine wpAnyH_ready (rs := [38]) (by kernel_rfl) (by simp) ?_
    refine AllReadyH.cons (o := { dst := some 132, op := _, type := _, pos := _, after := _, guard := _ }) rfl (fun K hK' => ?_) AllReadyH.nil
    rw [if_pos (by rfl)]
    go_simp
    refine (hLb W9 ba _ _ (hK.new hSq.gr) hlt9 hA9 hd9 hM9).mono ?_
    rintro e w18 ⟨rfl, hG18⟩
    have hSg := hSq.on hG18
    refine hK'.out _ _ hSg.all (fun hSB => ?_)
    clear hK' K
    refine wpAnyH_take (i := 39) (oi := { dst := some 133, op := _, type := _, pos := _, after := _, guard := _ }) (v := ?v39_534) rfl (by kernel_rfl) (by kernel_rfl) (by kernel_rfl) (fun _ _ _ h => h) (Or.inl ⟨by rfl, ?h39_534⟩) hSB ?r39_534
    case h39_534 => intro w0 hw0; obtain ⟨s0⟩ := hw0; go_simp; try with_reducible rfl
    simp only [Act.put, List.setIfInBounds_toArray, List.set_cons_zero, List.set_cons_succ]
    refine wpAnyH_take (i := 40) (oi := { dst := some 134, op := _, type := _, pos := _, after := _, guard := _ }) (v := ?v40_537) rfl (by kernel_rfl) (by kernel_rfl) (by kernel_rfl) (fun _ _ _ h => h) (Or.inl ⟨by rfl, ?h40_537⟩) hSB ?r40_537
    case h40_537 => intro w0 hw0; obtain ⟨s0⟩ := hw0; go_simp; try with_reducible rfl
    simp only [Act.put, List.setIfInBounds_toArray, List.set_cons_zero, List.set_cons_succ]
    refine wpAnyH_take (i := 41) (oi := { dst := some 135, op := _, type := _, pos := _, after := _, guard := _ }) (v := ?v41_540) rfl (by kernel_rfl) (by kernel_rfl) (by kernel_rfl) (fun _ _ _ h => h) (Or.inl ⟨by rfl, ?h41_540⟩) hSB ?r41_540
    case h41_540 => intro w0 hw0; obtain ⟨s0⟩ := hw0; go_simp; try with_reducible rfl
    simp only [Act.put, List.setIfInBounds_toArray, List.set_cons_zero, List.set_cons_succ]
    refine wpAnyH_take (i := 42) (oi := { dst := some 136, op := _, type := _, pos := _, after := _, guard := _ }) (v := ?v42_543) rfl (by kernel_rfl) (by kernel_rfl) (by kernel_rfl) (fun _ _ _ h => h) (Or.inl ⟨by rfl, ?h42_543⟩) hSB ?r42_543
    case h42_543 => intro w0 hw0; obtain ⟨s0⟩ := hw0; go_simp; try with_reducible rfl
    simp only [Act.put, List.setIfInBounds_toArray, List.set_cons_zero, List.set_cons_succ]
    refine wpAnyH_ready (rs := [43]) (by kernel_rfl) (by simp) ?_
    refine AllReadyH.cons (o := { dst := some 137, op := _, type := _, pos := _, after := _, guard := _ }) rfl (fun K hK' => ?_) AllReadyH.nil
    rw [if_pos (by rfl)]
    go_simp
    have hSh := hSg.on ((Gr.refl w18 none).alloc (.cells #[.int .i64 1] 3))
    refine hK'.out _ _ hSh.all (fun hSC => ?_)
    clear hK' K hSB
    refine wpAnyH_ready (rs := [44]) (by kernel_rfl) (by simp) ?_
    refine AllReadyH.cons (o := { dst := some 138, op := _, type := _, pos := _, after := _, guard := _ }) rfl (fun K hK' => ?_) AllReadyH.nil
    rw [if_pos (by rfl)]
    go_simp
    refine (same_any (some ⟨GB, 0, none⟩) (some ⟨w18.heap.size, 0, none⟩) GB w18.heap.size c0 1 [1] [1] (w18.alloc (.cells #[.int .i64 1] 3)) (by simp) (by simp) (.inr ⟨rfl, hSh.s⟩) (.inr ⟨rfl, at_new w18 [.int .i64 1] 3⟩)).mono ?_
    rintro e w19 ⟨rfl, hG19⟩
    rw [decide_eq_true rfl]
    refine hK'.out _ _ (hSh.on hG19).all (fun hSD => ?_)
    clear hK' K hSC
    refine wpAnyH_take (i := 45) (oi := { dst := some 139, op := _, type := _, pos := _, after := _, guard := _ }) (v := ?v45_562) rfl (by kernel_rfl) (by kernel_rfl) (by kernel_rfl) (fun _ _ _ h => h) (Or.inl ⟨by rfl, ?h45_562⟩) hSD ?r45_562
    case h45_562 => intro w0 hw0; obtain ⟨s0⟩ := hw0; go_simp; try with_reducible rfl
    simp only [Act.put, List.setIfInBounds_toArray, List.set_cons_zero, List.set_cons_succ]
    refine wpAnyH_take (i := 46) (oi := { dst := some 0, op := _, type := _, pos := _, after := _, guard := _ }) (v := ?v46_565) rfl (by kernel_rfl) (by kernel_rfl) (by kernel_rfl) (fun _ _ _ h => h) (Or.inl ⟨by rfl, ?h46_565⟩) hSD ?r46_565
    case h46_565 => intro w0 hw0; obtain ⟨s0⟩ := hw0; go_simp; try with_reducible rfl
    simp only [Act.put, List.setIfInBounds_toArray, List.set_cons_zero, List.set_cons_succ]
    refine wpAnyH_done (by kernel_rfl) ?_ _
    go_wp2_with fail
    go_ret
    exact ⟨rfl, (hSh.on hG19).gr⟩
end Go.Proofs.YtjibmhmaoegcnaaDoor
namespace Go.Proofs.YtjibmhmaoegcnaaDoor
open Go.RowKit Go.Shelf
set_option linter.unusedVariables false
theorem upto_fold (ver n : Int) : ∀ (g : List Ack) (k : Int), g.foldl (fun n a => if n < a.u ∧ ackCheckV a ver = 0 then a.u else n) k ≤ n ↔ k ≤ n ∧ ∀ a ∈ g, ackCheckV a ver = 0 → a.u ≤ n
  | [], k => by simp
  | a :: g, k => by
    rw [List.foldl_cons, upto_fold ver n g]
    simp only [List.mem_cons, forall_eq_or_imp]
    split
    · rename_i h
      constructor
      · rintro ⟨h1, h2⟩; exact ⟨by omega, fun _ => h1, h2⟩
      · rintro ⟨h1, h2, h3⟩; exact ⟨h2 h.2, h3⟩
    · rename_i h
      constructor
      · rintro ⟨h1, h2⟩
        refine ⟨h1, fun hc => ?_, h2⟩
        by_cases e : k < a.u
        · exact absurd ⟨e, hc⟩ h
        · omega
      · rintro ⟨h1, _, h3⟩; exact ⟨h1, h3⟩
/-- The number of a member. -/
def upV (fo st : Int) (l : List Ack) (m : Mem) : Int := uptoV m.ver (grp fo st l m.d)
theorem upV_le (fo st n : Int) (l : List Ack) (m : Mem) : upV fo st l m ≤ n ↔ 0 ≤ n ∧ ∀ a ∈ l, a.f = fo → a.s = st → a.d = m.d → ackCheckV a m.ver = 0 → a.u ≤ n := by
  unfold upV uptoV
  rw [upto_fold]
  unfold grp
  constructor
  · rintro ⟨h1, h2⟩
    exact ⟨h1, fun a ha h3 h4 h5 h6 => h2 a (List.mem_filter.2 ⟨ha, by rw [decide_eq_true_eq]; exact ⟨h3, h4, h5⟩⟩) h6⟩
  · rintro ⟨h1, h2⟩
    refine ⟨h1, fun a ha h6 => ?_⟩
    obtain ⟨ha, h⟩ := List.mem_filter.1 ha
    rw [decide_eq_true_eq] at h
    exact h2 a ha h.1 h.2.1 h.2.2 h6
theorem upV_mono (fo st : Int) (l l' : List Ack) (m : Mem) (h : ∀ a ∈ l, a ∈ l') : upV fo st l m ≤ upV fo st l' m :=
  (upV_le _ _ _ _ _).2 ⟨((upV_le fo st _ l' m).1 (Int.le_refl _)).1, fun a ha => ((upV_le fo st _ l' m).1 (Int.le_refl _)).2 a (h a ha)⟩
theorem upV_zero (fo st : Int) (l : List Ack) (m : Mem) : 0 ≤ upV fo st l m := ((upV_le fo st _ l m).1 (Int.le_refl _)).1
theorem check_formed {a : Ack} {pub : Int} (h : ackCheckV a pub = 0) : a.formed = true := by
  unfold ackCheckV at h
  cases hf : a.formed with
  | true => rfl
  | false => rw [hf] at h; simp at h
theorem formed_u {a : Ack} (h : a.formed = true) : 0 ≤ a.u ∧ a.u ≤ 65536 := by
  simp only [Ack.formed, validB, Bool.and_eq_true, decide_eq_true_eq] at h
  omega
theorem upV_top (fo st : Int) (l : List Ack) (m : Mem) : upV fo st l m ≤ 65536 :=
  (upV_le _ _ _ _ _).2 ⟨by omega, fun a _ _ _ _ h => (formed_u (check_formed h)).2⟩
theorem least_fold (fo st : Int) (l : List Ack) : ∀ (ms : List Mem) (k : Int), ∃ r, ms.foldl (fun o m => some (match o with | none => uptoV m.ver (grp fo st l m.d) | some n => if uptoV m.ver (grp fo st l m.d) < n then uptoV m.ver (grp fo st l m.d) else n)) (some k) = some r ∧ ∀ n : Int, n ≤ r ↔ n ≤ k ∧ ∀ m ∈ ms, n ≤ upV fo st l m
  | [], k => ⟨k, rfl, fun n => by simp⟩
  | m :: ms, k => by
    obtain ⟨r, hr, h⟩ := least_fold fo st l ms (if uptoV m.ver (grp fo st l m.d) < k then uptoV m.ver (grp fo st l m.d) else k)
    refine ⟨r, hr, fun n => ?_⟩
    rw [h n]
    simp only [List.mem_cons, forall_eq_or_imp]
    show _ ↔ _ ∧ n ≤ uptoV m.ver (grp fo st l m.d) ∧ _
    constructor
    · rintro ⟨h1, h2⟩
      split at h1
      · exact ⟨by omega, h1, h2⟩
      · exact ⟨h1, by omega, h2⟩
    · rintro ⟨h1, h2, h3⟩
      refine ⟨?_, h3⟩
      split
      · exact h2
      · exact h1
theorem le_least (fo st n : Int) (l : List Ack) (ms : List Mem) (hm : ms ≠ []) : n ≤ leastV fo st l ms ↔ ∀ m ∈ ms, n ≤ upV fo st l m := by
  obtain ⟨m, ms, rfl⟩ := List.exists_cons_of_ne_nil hm
  obtain ⟨r, hr, h⟩ := least_fold fo st l ms (uptoV m.ver (grp fo st l m.d))
  have e : leastV fo st l (m :: ms) = r := by
    have h2 : leastO fo st l (m :: ms) = some r := hr
    unfold leastV
    rw [h2]
    rfl
  rw [e, h n]
  simp only [List.mem_cons, forall_eq_or_imp]
  rfl
theorem least_mono (fo st : Int) (l l' : List Ack) (ms : List Mem) (h : ∀ a ∈ l, a ∈ l') : leastV fo st l ms ≤ leastV fo st l' ms := by
  by_cases hm : ms = []
  · subst hm; exact Int.le_refl _
  · rw [le_least fo st _ l' ms hm]
    intro m hmm
    exact Int.le_trans ((le_least fo st _ l ms hm).1 (Int.le_refl _) m hmm) (upV_mono fo st l l' m h)
theorem least_anti (fo st : Int) (l : List Ack) (ms ms' : List Mem) (hm : ms ≠ []) (h : ∀ m ∈ ms, m ∈ ms') : leastV fo st l ms' ≤ leastV fo st l ms := by
  rw [le_least fo st _ l ms hm]
  have hm' : ms' ≠ [] := by
    obtain ⟨m, t, rfl⟩ := List.exists_cons_of_ne_nil hm
    exact List.ne_nil_of_mem (h m (by simp))
  exact fun m hmm => (le_least fo st _ l ms' hm').1 (Int.le_refl _) m (h m hmm)
theorem least_zero (fo st : Int) (l : List Ack) (ms : List Mem) : 0 ≤ leastV fo st l ms := by
  by_cases hm : ms = []
  · subst hm; exact Int.le_refl _
  · rw [le_least fo st _ l ms hm]; exact fun m _ => upV_zero fo st l m
theorem least_top (fo st : Int) (l : List Ack) (ms : List Mem) : leastV fo st l ms ≤ 65536 := by
  by_cases hm : ms = []
  · subst hm; show (0 : Int) ≤ 65536; omega
  · obtain ⟨m, t, rfl⟩ := List.exists_cons_of_ne_nil hm
    exact Int.le_trans ((le_least fo st _ l _ hm).1 (Int.le_refl _) m (by simp)) (upV_top fo st l m)
theorem least_turned (fo st : Int) (l : List Ack) (a : Ack) (ms : List Mem) (m : Mem) : leastV fo st ((l ++ [a]).reverse ++ [a]) (ms ++ [m]).reverse = leastV fo st (l ++ [a]) (ms ++ [m]) := by
  have h1 : leastV fo st ((l ++ [a]).reverse ++ [a]) (ms ++ [m]).reverse = leastV fo st ((l ++ [a]).reverse ++ [a]) (ms ++ [m]) :=
    Int.le_antisymm (least_anti _ _ _ _ _ (by simp) (fun x hx => List.mem_reverse.2 hx)) (least_anti _ _ _ _ _ (by simp) (fun x hx => List.mem_reverse.1 hx))
  rw [h1]
  refine Int.le_antisymm (least_mono _ _ _ _ _ ?_) (least_mono _ _ _ _ _ ?_)
  · intro x hx
    rcases List.mem_append.1 hx with h | h
    · exact List.mem_reverse.1 h
    · exact List.mem_append.2 (.inr h)
  · intro x hx
    exact List.mem_append.2 (.inl (List.mem_reverse.2 hx))
end Go.Proofs.YtjibmhmaoegcnaaDoor
