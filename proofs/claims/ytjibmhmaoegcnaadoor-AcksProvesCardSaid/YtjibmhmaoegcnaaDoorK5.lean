/- Parts of a proof, joined by program: ValueL, Decode, Decode2, Sign. -/
import Derived.Test.YtjibmhmaoegcnaaDoorK4
import Derived.Deep.RegionWith
import Derived.Defers
import Derived.Recover
namespace Go.Proofs.YtjibmhmaoegcnaaDoor
open Go.RowKit Go.Shelf
set_option linter.unusedVariables false
attribute [local go_sem ↓] Go.wp_at_zero Go.wp_at_succ
/-- The values that have been read of a list, and the row that holds them. -/
structure VL (w : World) (rb db : Nat) (r : List UInt8) (v : Value) (ts : List Tree) (w' : World) : Prop where
  vx : VX w rb db r [.int .i64 3, .int .i64 0, .string ⟨#[]⟩, v] w'
  row : ∃ css, OwnV w' (w.heap.size + 1) v css ∧ css.length = ts.length ∧ ∀ i (h : i < ts.length) (h' : i < css.length), TV w' (fun b => w.heap.size < b ∧ some b ≠ v.ownBlock) (ts[i]) (css[i])
  form : ∃ p m c, v = .slice p m c
/-- A value is appended, in a region that draws: at whatever world. -/
theorem step_value2 {ops : Array Oper} {o : Oper} {a : Act} {K : Act → World → Prop} {Q : Exit → Act → World → Prop} {E : Prop} (hgd : o.guard = none) (s x : Operand)
    (ho : o.op = .call { callee := .builtin .append, args := #[s, x], argTypes := #[49, 49] }) (B : Nat) (v : Value) (css : List (List Value)) (W : World) (k n : Int) (t : ByteArray) (p : Option Addr) (m c : Nat)
    (hs : a.eval s = v) (hown : OwnV W B v css) (hB : B ≤ W.heap.size) (hlen : css.length ≤ 1500000) (H : Nat) (hA : At W H 0 [.int .i64 k, .int .i64 n, .string t, .slice p m c]) (hx : a.eval x = .slice (some ⟨H, 0, none⟩) 1 1)
    (h : ∀ g cap w1, OwnV w1 B (.slice (some ⟨g, 0, none⟩) (css.length + 1) cap) (css ++ [[.int .i64 k, .int .i64 n, .string t, .slice p m c]]) → Gr W v.ownBlock w1 → (v.ownBlock = some g ∨ W.heap.size = g) → g < w1.heap.size → K (a.put o.dst (.slice (some ⟨g, 0, none⟩) (css.length + 1) cap)) w1) :
    if Region.wanted o (yielded ops a.tmps) = true then Oper.wp Tryd.prog o a W K Q else E := by
  obtain ⟨i0, hi, hz0, hz1, hz2⟩ := info_value
  refine step_append_lies _ hgd s x 49 ho B 51 i0 _ 4 56 Tryd.underlying49 hi hz0 hz1 hz2 rfl (by decide) v css.length css.flatten hs hown ⟨H, 0, none⟩ 1 1 [.int .i64 k, .int .i64 n, .string t, .slice p m c] hx rfl ?_ ?_ (by decide) (by unfold maxLen; omega) (by omega) hB W.heap.size rfl ?_
  · intro j u hj
    obtain ⟨hl, e⟩ := List.getElem?_eq_some_iff.1 hj
    have := hA j hl
    rw [Addr.add_lit, ← e]
    exact this
  · intro u hu
    simp only [List.mem_cons, List.not_mem_nil, or_false] at hu
    rcases hu with rfl | rfl | rfl | rfl <;> rfl
  intro g cap w1 hown1 hgrow hat hlt
  refine h g cap w1 ?_ hgrow (hat.imp_right Eq.symm) hlt
  show w1.ownsRow _ _ _ _ _ _
  rw [List.length_append, List.length_singleton, List.flatten_append, List.flatten_singleton]
  exact hown1
theorem own_lt {w : World} {B s n : Nat} {e : TypeId} {v : Value} {xs : List Value} (h : w.ownsRow B e s v n xs) : ∀ b, v.ownBlock = some b → b < w.heap.size := by
  obtain ⟨_, ⟨rfl, _⟩ | ⟨g, cap, cur, rfl, hg, hb, _⟩⟩ := h
  · intro b hb; cases hb
  · intro b hb'
    have e : g = b := by simpa [Value.ownBlock] using hb'
    subst e
    exact (Array.getElem?_eq_some_iff.1 hb).1
theorem own_ge {w : World} {B s n : Nat} {e : TypeId} {v : Value} {xs : List Value} (h : w.ownsRow B e s v n xs) : ∀ b, v.ownBlock = some b → B ≤ b := by
  obtain ⟨_, ⟨rfl, _⟩ | ⟨g, cap, cur, rfl, hg, _⟩⟩ := h
  · intro b hb; cases hb
  · intro b hb'
    have e : g = b := by simpa [Value.ownBlock] using hb'
    subst e
    exact hg
theorem RD.drew {w : World} {rb db : Nat} {l : List UInt8} (h : RD w rb db l) : RD w.drew rb db l := ⟨h.ex⟩
theorem VX.drew {w w' : World} {rb db : Nat} {l : List UInt8} {x : List Value} (h : VX w rb db l x w') : VX w rb db l x w'.drew := ⟨h.gr.drew, h.blk, h.rd.drew⟩
/-- What the caller of the element's reader holds. -/
structure LX (w : World) (rb : Nat) (v : Value) (w' : World) : Prop where
  gr : Gr w (some rb) w'
  blk : Blk w' w.heap.size 51 [.int .i64 3, .int .i64 0, .string ⟨#[]⟩, v]
theorem LX.drew {w w' : World} {rb : Nat} {v : Value} (h : LX w rb v w') : LX w rb v w'.drew := ⟨h.gr.drew, h.blk⟩
theorem LX.alloc {w w' : World} {rb : Nat} {v : Value} (h : LX w rb v w') (o : Obj) : LX w rb v (w'.alloc o) := ⟨h.gr.alloc o, h.blk.alloc o⟩
theorem LX.at3 {w w' : World} {rb : Nat} {v : Value} (h : LX w rb v w') : w'.cell? ⟨w.heap.size, 3, none⟩ = some v ∧ LX w rb v w' := ⟨h.blk.cell? 3, h⟩
/-- The row as a tree. -/
theorem TV.of_row {w : World} {lo : Nat} {v : Value} {css : List (List Value)} {ts : List Tree} (hown : OwnV w (lo + 1) v css) (hl : css.length = ts.length)
    (h : ∀ i (h : i < ts.length) (h' : i < css.length), TV w (fun b => lo < b ∧ some b ≠ v.ownBlock) (ts[i]) (css[i])) : TV w (fun b => lo < b) (.list ts) [.int .i64 3, .int .i64 0, .string ⟨#[]⟩, v] := by
  have hge := own_ge hown
  have hlt := own_lt hown
  rcases hown.2 with ⟨rfl, h0⟩ | ⟨g, cap, cur, hv, hg, hb, h1, h2, h3, h4⟩
  · have : ts = [] := List.eq_nil_of_length_eq_zero (by omega)
    subst this
    exact .nil
  · subst hv
    rw [hl]
    refine .list ts css g cap hl (hlt g rfl) hg ?_ fun i h5 h6 => (h i h5 h6).mono fun b _ hb => hb.1
    intro i hi
    have := hown.cells (g := g) rfl i css.flatten[i] (List.getElem?_eq_getElem hi)
    rw [Addr.add_lit] at this
    exact this
theorem rep_rest {f : List UInt8 → Option (Tree × List UInt8)} (h : ∀ l t r, f l = some (t, r) → r.length ≤ l.length) : ∀ (n : Nat) (l : List UInt8) (ts : List Tree) (r : List UInt8), rep f n l = some (ts, r) → r.length ≤ l.length
  | 0, l, ts, r, e => by simp [rep] at e; rw [e.2]; exact Nat.le_refl _
  | n + 1, l, ts, r, e => by
    simp only [rep] at e
    cases hf : f l with
    | none => simp [hf] at e
    | some p =>
      obtain ⟨t, l1⟩ := p
      simp only [hf] at e
      cases hr : rep f n l1 with
      | none => simp [hr] at e
      | some p2 =>
        obtain ⟨ts2, r2⟩ := p2
        simp only [hr, Option.some.injEq, Prod.mk.injEq] at e
        have h1 := h l t l1 hf
        have h2 := rep_rest h n l1 ts2 r2 hr
        rw [← e.2]; omega
theorem valD_rest : ∀ (d : Nat) (l : List UInt8) (t : Tree) (r : List UInt8), valD d l = some (t, r) → r.length ≤ l.length
  | d, [], t, r, h => by cases d <;> simp [valD] at h
  | d, c :: l, t, r, h => by
    rw [valD_cons] at h
    split at h
    · cases hn : numD 0 l with
      | none => simp [hn] at h
      | some p =>
        obtain ⟨u, s⟩ := p
        have := numD_suffix l 0 u s hn
        simp only [hn, Option.some.injEq, Prod.mk.injEq] at h
        rw [← h.2]; simp; omega
    · split at h
      · cases hn : lenD l with
        | none => simp [hn] at h
        | some p =>
          obtain ⟨u, s⟩ := p
          have := lenD_suffix hn
          simp only [hn, Option.some.injEq, Prod.mk.injEq] at h
          rw [← h.2]; simp; omega
      · split at h
        · cases d with
          | zero => simp at h
          | succ d =>
            cases hn : lenD l with
            | none => simp [hn] at h
            | some p =>
              obtain ⟨u, s⟩ := p
              have := lenD_suffix hn
              simp only [hn] at h
              cases hr : rep (valD d) u s with
              | none => simp [hr] at h
              | some p2 =>
                obtain ⟨ts, r2⟩ := p2
                have h2 := rep_rest (valD_rest d) u s ts r2 hr
                simp only [hr, Option.some.injEq, Prod.mk.injEq] at h
                rw [← h.2]; simp; omega
        · simp at h
termination_by d => d
/-- One element more. -/
theorem VL.step {w wr w5 W2 w6 : World} {rb db : Nat} {r r' : List UInt8} {v v' : Value} {css : List (List Value)} {ts : List Tree} {t : Tree} {cs : List Value} {g n' cap : Nat} (hrb : rb < w.heap.size) (hdb : db < w.heap.size)
    (hV : VX w rb db r [.int .i64 3, .int .i64 0, .string ⟨#[]⟩, v] wr) (hown : OwnV wr (w.heap.size + 1) v css) (hcl : css.length = ts.length)
    (hch : ∀ i (h : i < ts.length) (h' : i < css.length), TV wr (fun b => w.heap.size < b ∧ some b ≠ v.ownBlock) (ts[i]) (css[i])) (hG5 : Gr wr (some rb) w5) (hR5 : RD w5 rb db r') (hT5 : TV w5 (fun b => wr.heap.size ≤ b) t cs)
    (hW2 : Gr w5 none W2) (hgrow : Gr W2 v.ownBlock w6) (hown6 : OwnV w6 (w.heap.size + 1) v' (css ++ [cs])) (hv' : v' = .slice (some ⟨g, 0, none⟩) n' cap) (hat : v.ownBlock = some g ∨ W2.heap.size = g) :
    VL w rb db r' v' (ts ++ [t]) (w6.setCell ⟨w.heap.size, 3, none⟩ v') := by
  have hlt := own_lt hown
  have hge := own_ge hown
  have hX := hV.blk.lt
  have hge6 := own_ge hown6
  have n1 : ∀ b, b ≤ w.heap.size → some b ≠ v.ownBlock := fun b hb e => by have := hge b e.symm; omega
  have hB6 := ((hV.blk.grown hG5 (by simp; omega)).grown hW2 (by simp)).grown hgrow (n1 _ (Nat.le_refl _))
  have hR6 := (hR5.new hW2).grown hgrow (n1 _ (by omega)) (n1 _ (by omega))
  have hGX : Gr w6 (some w.heap.size) (w6.setCell ⟨w.heap.size, 3, none⟩ v') := (Gr.refl w6 (some w.heap.size)).setCell (.inr rfl) v'
  have hG6 : Gr w (some rb) w6 := ((hV.gr.trans hG5).on hW2 (by simp)).on hgrow fun b e => .inl (by have := hge b e; omega)
  have hgX : w.heap.size + 1 ≤ g := hge6 g (by rw [hv']; rfl)
  refine ⟨⟨hG6.setCell (.inl (Nat.le_refl _)) v', hB6.set 3 v', hR6.grown hGX (by simp; omega) (by simp; omega)⟩, ⟨css ++ [cs], ?_, by simp [hcl], ?_⟩, ⟨_, _, _, hv'⟩⟩
  · exact World.ownsRow.kept hown6 hGX (.inr (by rw [hv']; simp [Value.ownBlock]; omega))
  · have all5 : ∀ i (h : i < (ts ++ [t]).length) (h' : i < (css ++ [cs]).length), TV w5 (fun b => w.heap.size < b ∧ some b ≠ v.ownBlock) ((ts ++ [t])[i]) ((css ++ [cs])[i]) := by
      intro i h h'
      by_cases hi : i < ts.length
      · have hi' : i < css.length := by omega
        rw [List.getElem_append_left hi, List.getElem_append_left hi']
        exact (hch i hi hi').grown hG5 fun b hb => by simp; omega
      · have hie : i = ts.length := by simp at h; omega
        have hie' : i = css.length := by omega
        rw [List.getElem_append_right (by omega), List.getElem_append_right (by omega)]
        simp only [hie, Nat.sub_self, List.getElem_singleton, ← hcl]
        exact hT5.mono fun b _ hb => ⟨by omega, fun e => by have := hlt b e.symm; omega⟩
    intro i h h'
    have k2 := ((all5 i h h').grown hW2 (by simp)).mono (A' := fun b => w.heap.size < b ∧ some b ≠ v.ownBlock ∧ b ≠ g) fun b hb ⟨p1, p2⟩ => ⟨p1, p2, fun e => by
      subst e
      rcases hat with e | e
      · exact p2 e.symm
      · omega⟩
    have k6 := (k2.grown hgrow fun b hb => hb.2.1).mono (A' := fun b => w.heap.size < b ∧ some b ≠ v'.ownBlock) fun b _ ⟨p1, _, p3⟩ => ⟨p1, by rw [hv']; simp [Value.ownBlock]; exact p3⟩
    exact k6.grown hGX fun b hb => by simp; omega
set_option maxHeartbeats 600000 in
set_option maxRecDepth 100000 in
theorem value_list (d rb db : Nat) (l : List UInt8) (c : UInt8) (hc : c.toNat = 3) (dep : Int) (hdep : dep = 16 - (d : Int)) (hd : d ≤ 16) (w : World) (hR : RD w rb db (c :: l)) (hl : l.length < 1000000) (hrb : rb < w.heap.size)
    (ih : ∀ d', d = d' + 1 → ∀ (r : List UInt8) (w : World), RD w rb db r → r.length < 1000000 → rb < w.heap.size → Calls Tryd.prog 51 #[.pointer (some ⟨rb, 0, none⟩), .int .i64 (dep + 1)] w fun e w' => VPost w rb db (valD d' r) e w') :
    Calls Tryd.prog 51 #[.pointer (some ⟨rb, 0, none⟩), .int .i64 dep] w fun e w' => VPost w rb db (valD d (c :: l)) e w' := by
  have hG0 : Gr w none (w.alloc (.cells #[.int .i64 0, .int .i64 0, .string ⟨#[]⟩, .slice none 0 0] 51)) := (Gr.refl _ _).alloc _
  have hR0 := hR.new hG0
  have hB0 := Blk.new w 51 [.int .i64 0, .int .i64 0, .string ⟨#[]⟩, .slice none 0 0]
  have hc' : (c.toNat : Int) = 3 := by omega
  have HD := Lib.hid hdep
  clear hdep
  go_enter Tryd.func51, Tryd.ntmps51
  go_upto_region 2 with (go_at_call 74; refine (take1_ok rb db c l _ hR0 hl).mono ?_; rintro e w' ⟨b, o, rfl, hcell, hR1, hG1⟩; have hV1 : VX w rb db l [.int .i64 0, .int .i64 0, .string ⟨#[]⟩, .slice none 0 0] w' := ⟨((Gr.refl w (some rb)).alloc _).trans hG1, hB0.grown hG1 (by simp; omega), hR1⟩; obtain ⟨c0, c1, c2, c3, f0, f1, f2, f3⟩ := hV1.all)
  have hV2 := hV1.put hrb hR.db_lt 0 (.int .i64 3)
  clear c0 c1 c2 c3 f0 f1 f2 f3 hR1
  generalize (w'.setCell ⟨w.heap.size, 0, none⟩ (.int .i64 3)) = W at *
  obtain ⟨c0, c1, c2, c3, f0, f1, f2, f3⟩ := hV2.all
  cases d with
  | zero =>
    have hD : valD 0 (c :: l) = none := by rw [valD_cons, if_neg (by omega), if_neg (by omega), if_pos hc]
    have i1 : decide (dep < 16) = false := by have := HD.out; simp; omega
    go_wp2_with (go_at_call 52; refine (want_false _ _).mono ?_; rintro e w3 ⟨rfl, rfl⟩)
    refine ⟨rfl, ?_⟩
    rw [hD]
    exact ⟨rfl, hV2.gr⟩
  | succ d =>
    have i1 : decide (dep < 16) = true := by have := HD.out; simp; omega
    have hN := length_any rb db l W hV2.rd (by omega)
    cases hn : lenD l with
    | none =>
      have hD : valD (d + 1) (c :: l) = none := by rw [valD_cons, if_neg (by omega), if_neg (by omega), if_pos hc, hn]
      rw [hn] at hN
      go_wp2_with (first | (go_at_call 52; refine (want_true _ _).mono ?_; rintro e w3 ⟨rfl, rfl⟩) | (go_at_call 77; refine hN.mono ?_; rintro e w3 ⟨rfl, hG3⟩))
      refine ⟨rfl, ?_⟩
      rw [hD]
      exact ⟨rfl, hV2.gr.trans hG3⟩
    | some p =>
      obtain ⟨n, r0⟩ := p
      obtain ⟨hr1, hr2⟩ := lenD_suffix hn
      have hD : valD (d + 1) (c :: l) = (match rep (valD d) n r0 with | none => none | some (ts, r') => some (.list ts, r')) := by rw [valD_cons, if_neg (by omega), if_neg (by omega), if_pos hc, hn]; rfl
      rw [hn] at hN
      have ih' := ih d rfl
      go_wp2_with (first | (go_at_call 52; refine (want_true _ _).mono ?_; rintro e w3 ⟨rfl, rfl⟩) | (go_at_call 77; refine hN.mono ?_; rintro e w3 ⟨rfl, hR3, hG3⟩; have hV3 := hV2.on hrb hG3 hR3))
      go_loopw [37] (fun i wr => ∃ (m : Nat) (v : Value) (ts : List Tree) (r : List UInt8), m ≤ n ∧ i = .int .i64 m ∧ ts.length = m ∧ VL w rb db r v ts wr ∧ r.length ≤ r0.length ∧ rep (valD d) n r0 = repGo ts (rep (valD d) (n - m) r)) (fun i _ => (n - intOf i).toNat)
      case atStart => exact ⟨0, .slice none 0 0, [], r0, by omega, rfl, rfl, ⟨hV3, ⟨[], World.ownsRow_nil _ _ _ _, rfl, by simp⟩, ⟨none, 0, 0, rfl⟩⟩, Nat.le_refl _, by rw [Nat.sub_zero]; exact repGo_nil _⟩
      case round =>
        obtain ⟨m, v, ts, r, hm, rfl, hts, hL, hr, hrep⟩ := hrel
        obtain ⟨p, mm, cc, rfl⟩ := hL.form
        obtain ⟨css, hown, hcl, hch⟩ := hL.row
        obtain ⟨e0, e1, e2, e3, g0, g1, g2, g3⟩ := hL.vx.all
        by_cases hlt : m < n
        · obtain ⟨q, hq⟩ : ∃ q, n - m = q + 1 := ⟨n - m - 1, by omega⟩
          have hcell := e3
          have hxlt := hL.vx.blk.lt
          have hrb' := Nat.lt_of_lt_of_le hrb hL.vx.gr.size
          have hw5 : IntKind.i64.wrap (dep + 1) = dep + 1 := by have := HD.out; rw [IntKind.wrap_i64]; omega
          have ihc := fun W' (h : RD W' rb db r) (h2 : rb < W'.heap.size) => ih' r W' h (by omega) h2
          cases hcn : valD d r with
          | none =>
            have hD2 : valD (d + 1) (c :: l) = none := by rw [hD, hrep, hq, rep_none hcn]
            rw [hcn] at ihc
            go_upto_region 12 with fail
            refine wp_region_any (by kernel_rfl) ?_
            change wpAny _ _ _ _ _ _ _ (World.drew _)
            refine wpAny_take (i := 0) (v := ?v0) rfl (by kernel_rfl) (by kernel_rfl) (by kernel_rfl) (fun _ _ _ h => h) (Or.inl ⟨by rfl, ?hy0⟩) ?rest0
            case hy0 => intro w; go_simp; with_reducible rfl
            refine wpAny_take (i := 2) (v := ?v2) rfl (by kernel_rfl) (by kernel_rfl) (by kernel_rfl) (fun _ _ _ h => h) (Or.inl ⟨by rfl, ?hy2⟩) ?rest2
            case hy2 => intro w; go_simp; with_reducible rfl
            refine wpAny_take (i := 3) (v := ?v3) rfl (by kernel_rfl) (by kernel_rfl) (by kernel_rfl) (fun _ _ _ h => h) (Or.inl ⟨by rfl, ?hy3⟩) ?rest3
            case hy3 => intro w; go_simp; with_reducible rfl
            refine wpAny_take (i := 4) (v := ?v4) rfl (by kernel_rfl) (by kernel_rfl) (by kernel_rfl) (fun _ _ _ h => h) (Or.inl ⟨by rfl, ?hy4⟩) ?rest4
            case hy4 => intro w; go_simp; with_reducible rfl
            refine wpAny_ready (rs := [1, 5]) (by kernel_rfl) (by simp) ?_
            refine AllReady.cons rfl (fun K hK => ?_) (AllReady.cons rfl (fun K hK => ?_) AllReady.nil)
            · go_simp
              refine hK _ _ ?_
              clear hK K
              refine wpAny_ready (rs := [5]) (by kernel_rfl) (by simp) ?_
              refine AllReady.cons rfl (fun K hK => ?_) AllReady.nil
              go_simp
              refine (ihc _ hL.vx.rd.drew (by exact hrb')).mono ?_
              rintro e w5 ⟨rfl, hG5⟩
              refine And.intro rfl ?_
              rw [hD2]
              exact ⟨rfl, hL.vx.gr.drew.trans hG5⟩
            · go_simp
              refine (ihc _ hL.vx.rd.drew (by exact hrb')).mono ?_
              rintro e w5 ⟨rfl, hG5⟩
              refine And.intro rfl ?_
              rw [hD2]
              exact ⟨rfl, hL.vx.gr.drew.trans hG5⟩
          | some pr =>
            obtain ⟨t, r'⟩ := pr
            rw [hcn] at ihc
            go_upto_region 12 with fail
            refine wp_region_any (by kernel_rfl) ?_
            change wpAny _ _ _ _ _ _ _ (World.drew _)
            refine wpAny_take (i := 0) (v := ?tv1) rfl (by kernel_rfl) (by kernel_rfl) (by kernel_rfl) (fun _ _ _ h => h) (Or.inl ⟨by rfl, ?th1⟩) ?tr1
            case th1 => intro w; go_simp; with_reducible rfl
            refine wpAny_take (i := 2) (v := ?tv2) rfl (by kernel_rfl) (by kernel_rfl) (by kernel_rfl) (fun _ _ _ h => h) (Or.inl ⟨by rfl, ?th2⟩) ?tr2
            case th2 => intro w; go_simp; with_reducible rfl
            refine wpAny_take (i := 3) (v := ?tv3) rfl (by kernel_rfl) (by kernel_rfl) (by kernel_rfl) (fun _ _ _ h => h) (Or.inl ⟨by rfl, ?th3⟩) ?tr3
            case th3 => intro w; go_simp; with_reducible rfl
            refine wpAny_take (i := 4) (v := ?tv4) rfl (by kernel_rfl) (by kernel_rfl) (by kernel_rfl) (fun _ _ _ h => h) (Or.inl ⟨by rfl, ?th4⟩) ?tr4
            case th4 => intro w; go_simp; with_reducible rfl
            refine wpAny_ready (rs := [1, 5]) (by kernel_rfl) (by simp) ?_
            refine AllReady.cons rfl (fun K hK => ?_) (AllReady.cons rfl (fun K hK => ?_) AllReady.nil)
            · go_simp
              refine hK _ _ ?_
              clear hK K
              refine wpAny_ready (rs := [5]) (by kernel_rfl) (by simp) ?_
              refine AllReady.cons rfl (fun K hK => ?_) AllReady.nil
              go_simp
              refine (ihc _ hL.vx.rd.drew (by exact hrb')).mono ?_
              rintro e w5 ⟨⟨k5, n5, s5, p5, m5, c5, rfl, hT5⟩, hR5, hG5⟩
              have hLX5 : LX w rb (.slice p mm cc) w5 := ⟨hL.vx.gr.drew.trans hG5, hL.vx.blk.drew.grown hG5 (by simp; omega)⟩
              have hsz5 : wr.heap.size ≤ w5.heap.size := hG5.size
              have hG5' : Gr wr (some rb) w5 := ⟨hG5.os, hG5.tape, hG5.output, hG5.size, hG5.block⟩
              have hown5 := World.ownsRow.kept hown hG5' (.inr (fun e => by have := own_ge hown rb e; omega))
              have k3 := hLX5.blk.cell? 3
              have k4 := (hLX5.blk.alloc (.cells #[.int .i64 k5, .int .i64 n5, .string s5, .slice p5 m5 c5] 51)).cell? 3
              refine hK _ _ ?_
              clear hK K
              refine wpAny_ready (rs := [6]) (by kernel_rfl) (by simp) ?_
              refine AllReady.cons rfl (fun K hK => ?_) AllReady.nil
              go_simp
              refine hK _ _ ?_
              clear hK K
              refine wpAny_ready (rs := [7]) (by kernel_rfl) (by simp) ?_
              refine AllReady.cons rfl (fun K hK => ?_) AllReady.nil
              refine step_value2 (by rfl) _ _ (by rfl) (w.heap.size + 1) (.slice p mm cc) css _ k5 n5 s5 p5 m5 c5 (by rfl) (hown5.alloc _) (by rw [World.size_alloc]; omega) (by omega) w5.heap.size (at_new w5 [.int .i64 k5, .int .i64 n5, .string s5, .slice p5 m5 c5] _) (by rfl) ?_
              intro g cap w6 hown6 hgrow hat hlt6
              have hB6 := (hLX5.blk.alloc (.cells #[.int .i64 k5, .int .i64 n5, .string s5, .slice p5 m5 c5] 51)).grown hgrow (fun e => by have := own_ge hown _ e.symm; omega)
              have k6 := hB6.cell? 3
              have f6 := hB6.free 3
              refine hK _ _ ?_
              clear hK K
              refine wpAny_take (i := 8) (v := ?tv5) rfl (by kernel_rfl) (by kernel_rfl) (by kernel_rfl) (fun _ _ _ h => h) (Or.inl ⟨by rfl, ?th5⟩) ?tr5
              case th5 => intro w; go_simp; with_reducible rfl
              refine wpAny_ready (rs := [9]) (by kernel_rfl) (by simp) ?_
              refine AllReady.cons rfl (fun K hK => ?_) AllReady.nil
              go_simp
              refine hK _ _ ?_
              clear hK K
              refine wpAny_done (by kernel_rfl) ?_ _
              have hLn := VL.step hrb hR.db_lt hL.vx hown hcl hch hG5' hR5 hT5 ((Gr.refl w5 none).alloc (.cells #[.int .i64 k5, .int .i64 n5, .string s5, .slice p5 m5 c5] 51)) hgrow hown6 rfl hat
              rw [show css.length = m by omega] at hLn
              have hrl := valD_rest d r t r' hcn
              go_wp2_with fail
              go_roundw
              case rel => exact ⟨m + 1, _, ts ++ [t], r', by omega, int_eq (by omega), by simp [hts], hLn, by omega, by rw [hrep, hq, rep_some hcn, show n - (m + 1) = q by omega]⟩
              case measure => simp [intOf]; omega
            · go_simp
              refine (ihc _ hL.vx.rd.drew (by exact hrb')).mono ?_
              rintro e w5 ⟨⟨k5, n5, s5, p5, m5, c5, rfl, hT5⟩, hR5, hG5⟩
              have hLX5 : LX w rb (.slice p mm cc) w5 := ⟨hL.vx.gr.drew.trans hG5, hL.vx.blk.drew.grown hG5 (by simp; omega)⟩
              have hsz5 : wr.heap.size ≤ w5.heap.size := hG5.size
              have hG5' : Gr wr (some rb) w5 := ⟨hG5.os, hG5.tape, hG5.output, hG5.size, hG5.block⟩
              have hown5 := World.ownsRow.kept hown hG5' (.inr (fun e => by have := own_ge hown rb e; omega))
              have k3 := hLX5.blk.cell? 3
              have k4 := (hLX5.blk.alloc (.cells #[.int .i64 k5, .int .i64 n5, .string s5, .slice p5 m5 c5] 51)).cell? 3
              refine hK _ _ ?_
              clear hK K
              refine wpAny_ready (rs := [1, 6]) (by kernel_rfl) (by simp) ?_
              refine AllReady.cons rfl (fun K hK => ?_) (AllReady.cons rfl (fun K hK => ?_) AllReady.nil)
              · go_simp
                refine hK _ _ ?_
                clear hK K
                refine wpAny_ready (rs := [6]) (by kernel_rfl) (by simp) ?_
                refine AllReady.cons rfl (fun K hK => ?_) AllReady.nil
                go_simp
                refine hK _ _ ?_
                clear hK K
                refine wpAny_ready (rs := [7]) (by kernel_rfl) (by simp) ?_
                refine AllReady.cons rfl (fun K hK => ?_) AllReady.nil
                refine step_value2 (by rfl) _ _ (by rfl) (w.heap.size + 1) (.slice p mm cc) css _ k5 n5 s5 p5 m5 c5 (by rfl) (hown5.alloc _) (by rw [World.size_alloc]; omega) (by omega) w5.heap.size (at_new w5 [.int .i64 k5, .int .i64 n5, .string s5, .slice p5 m5 c5] _) (by rfl) ?_
                intro g cap w6 hown6 hgrow hat hlt6
                have hB6 := (hLX5.blk.alloc (.cells #[.int .i64 k5, .int .i64 n5, .string s5, .slice p5 m5 c5] 51)).grown hgrow (fun e => by have := own_ge hown _ e.symm; omega)
                have k6 := hB6.cell? 3
                have f6 := hB6.free 3
                refine hK _ _ ?_
                clear hK K
                refine wpAny_take (i := 8) (v := ?tv6) rfl (by kernel_rfl) (by kernel_rfl) (by kernel_rfl) (fun _ _ _ h => h) (Or.inl ⟨by rfl, ?th6⟩) ?tr6
                case th6 => intro w; go_simp; with_reducible rfl
                refine wpAny_ready (rs := [9]) (by kernel_rfl) (by simp) ?_
                refine AllReady.cons rfl (fun K hK => ?_) AllReady.nil
                go_simp
                refine hK _ _ ?_
                clear hK K
                refine wpAny_done (by kernel_rfl) ?_ _
                have hLn := VL.step hrb hR.db_lt hL.vx hown hcl hch hG5' hR5 hT5 ((Gr.refl w5 none).alloc (.cells #[.int .i64 k5, .int .i64 n5, .string s5, .slice p5 m5 c5] 51)) hgrow hown6 rfl hat
                rw [show css.length = m by omega] at hLn
                have hrl := valD_rest d r t r' hcn
                go_wp2_with fail
                go_roundw
                case rel => exact ⟨m + 1, _, ts ++ [t], r', by omega, int_eq (by omega), by simp [hts], hLn, by omega, by rw [hrep, hq, rep_some hcn, show n - (m + 1) = q by omega]⟩
                case measure => simp [intOf]; omega
              · go_simp
                refine hK _ _ ?_
                clear hK K
                refine wpAny_ready (rs := [1]) (by kernel_rfl) (by simp) ?_
                refine AllReady.cons rfl (fun K hK => ?_) AllReady.nil
                go_simp
                refine hK _ _ ?_
                clear hK K
                refine wpAny_ready (rs := [7]) (by kernel_rfl) (by simp) ?_
                refine AllReady.cons rfl (fun K hK => ?_) AllReady.nil
                refine step_value2 (by rfl) _ _ (by rfl) (w.heap.size + 1) (.slice p mm cc) css _ k5 n5 s5 p5 m5 c5 (by rfl) (hown5.alloc _) (by rw [World.size_alloc]; omega) (by omega) w5.heap.size (at_new w5 [.int .i64 k5, .int .i64 n5, .string s5, .slice p5 m5 c5] _) (by rfl) ?_
                intro g cap w6 hown6 hgrow hat hlt6
                have hB6 := (hLX5.blk.alloc (.cells #[.int .i64 k5, .int .i64 n5, .string s5, .slice p5 m5 c5] 51)).grown hgrow (fun e => by have := own_ge hown _ e.symm; omega)
                have k6 := hB6.cell? 3
                have f6 := hB6.free 3
                refine hK _ _ ?_
                clear hK K
                refine wpAny_take (i := 8) (v := ?tv7) rfl (by kernel_rfl) (by kernel_rfl) (by kernel_rfl) (fun _ _ _ h => h) (Or.inl ⟨by rfl, ?th7⟩) ?tr7
                case th7 => intro w; go_simp; with_reducible rfl
                refine wpAny_ready (rs := [9]) (by kernel_rfl) (by simp) ?_
                refine AllReady.cons rfl (fun K hK => ?_) AllReady.nil
                go_simp
                refine hK _ _ ?_
                clear hK K
                refine wpAny_done (by kernel_rfl) ?_ _
                have hLn := VL.step hrb hR.db_lt hL.vx hown hcl hch hG5' hR5 hT5 ((Gr.refl w5 none).alloc (.cells #[.int .i64 k5, .int .i64 n5, .string s5, .slice p5 m5 c5] 51)) hgrow hown6 rfl hat
                rw [show css.length = m by omega] at hLn
                have hrl := valD_rest d r t r' hcn
                go_wp2_with fail
                go_roundw
                case rel => exact ⟨m + 1, _, ts ++ [t], r', by omega, int_eq (by omega), by simp [hts], hLn, by omega, by rw [hrep, hq, rep_some hcn, show n - (m + 1) = q by omega]⟩
                case measure => simp [intOf]; omega
        · obtain rfl : m = n := by omega
          have hD2 : valD (d + 1) (c :: l) = some (.list ts, r) := by rw [hD, hrep, Nat.sub_self, rep_end]
          have hV9 := (((hL.vx.put hrb hR.db_lt 0 (.int .i64 3)).put hrb hR.db_lt 1 (.int .i64 0)).put hrb hR.db_lt 2 (.string ⟨#[]⟩)).put hrb hR.db_lt 3 (.slice p mm cc)
          have hT := TV.of_row hown hcl hch
          go_wp2
          refine bodyPost_ret (results_val w _ _ _ _ _ _ rfl hV9.blk) rfl ?_
          rw [hD2]
          refine ⟨⟨_, _, _, _, _, _, rfl, ?_⟩, hV9.rd, hV9.gr⟩
          have hGX := ((((Gr.refl wr (some w.heap.size)).setCell (b := w.heap.size) (i := 0) (.inr rfl) (.int .i64 3)).setCell (b := w.heap.size) (i := 1) (.inr rfl) (.int .i64 0)).setCell (b := w.heap.size) (i := 2) (.inr rfl) (.string ⟨#[]⟩)).setCell (b := w.heap.size) (i := 3) (.inr rfl) (.slice p mm cc)
          exact (hT.grown hGX (fun b hb => by simp; omega)).mono (fun b _ hb => Nat.le_of_lt hb)
end Go.Proofs.YtjibmhmaoegcnaaDoor
namespace Go.Proofs.YtjibmhmaoegcnaaDoor
open Go.RowKit Go.Shelf
set_option linter.unusedVariables false
theorem RN.nil_or {w : World} {rb db : Nat} {l : List UInt8} (h : RD w rb db l) : RN w rb db l := .inr h
theorem value_any (d : Nat) : ∀ (rb db : Nat) (dep : Int) (l : List UInt8) (w : World), dep = 16 - (d : Int) → d ≤ 16 → RD w rb db l → l.length ≤ 1000000 → rb < w.heap.size →
    Calls Tryd.prog 51 #[.pointer (some ⟨rb, 0, none⟩), .int .i64 dep] w fun e w' => VPost w rb db (valD d l) e w' := by
  induction d with
  | zero =>
    intro rb db dep l w hdep hd hR hl hrb
    cases l with
    | nil =>
      refine (value_nil rb db dep w (.inr hR) hrb).mono ?_
      rintro e w' h
      exact h
    | cons c l =>
      by_cases h1 : c.toNat = 1
      · exact value_int 0 rb db l c h1 dep w hR (by simp at hl; omega) hrb
      · by_cases h2 : c.toNat = 2
        · exact value_text 0 rb db l c h2 dep w hR (by simp at hl; omega) hrb
        · by_cases h3 : c.toNat = 3
          · exact value_list 0 rb db l c h3 dep hdep hd w hR (by simp at hl; omega) hrb (by intro d' e; omega)
          · exact value_odd 0 rb db l c h1 h2 h3 dep w hR (by simp at hl; omega) hrb
  | succ d ih =>
    intro rb db dep l w hdep hd hR hl hrb
    cases l with
    | nil =>
      refine (value_nil rb db dep w (.inr hR) hrb).mono ?_
      rintro e w' h
      exact h
    | cons c l =>
      by_cases h1 : c.toNat = 1
      · exact value_int (d + 1) rb db l c h1 dep w hR (by simp at hl; omega) hrb
      · by_cases h2 : c.toNat = 2
        · exact value_text (d + 1) rb db l c h2 dep w hR (by simp at hl; omega) hrb
        · by_cases h3 : c.toNat = 3
          · refine value_list (d + 1) rb db l c h3 dep hdep hd w hR (by simp at hl; omega) hrb ?_
            intro d' e r w' hR' hr' hrb'
            obtain rfl : d = d' := by omega
            exact ih rb db (dep + 1) r w' (by omega) (by omega) hR' (by omega) hrb'
          · exact value_odd (d + 1) rb db l c h1 h2 h3 dep w hR (by simp at hl; omega) hrb
end Go.Proofs.YtjibmhmaoegcnaaDoor
namespace Go.Proofs.YtjibmhmaoegcnaaDoor
open Go.RowKit Go.Shelf
set_option linter.unusedVariables false
attribute [local go_sem ↓] Go.wp_at_zero Go.wp_at_succ
set_option maxHeartbeats 1000000 in
set_option maxRecDepth 100000 in
theorem catch_idle (p q : Value) (w : World) :
    CallsD Tryd.prog 50 #[p, q] .returning w fun e u' w' => e = .returned (.tuple #[]) ∧ u' = .returning ∧ w' = w := by
  refine callsD_of_wpS Tryd.func50 rfl fun c₀ cs hu => ?_
  apply wpS_seq
  apply wpS_region
  simp [wpOpsS, go_sem, recoverD, hu, Tryd.ntmps50, Exit.thenS]
  apply wpS_seq
  apply wpS_region
  simp [wpOpsS, go_sem, Exit.thenS]
  refine wpS_cond (t := false) (by simp [Act.eval, Array.replicate]) ?_
  simp only [Bool.false_eq_true, if_false]
  refine wpS_of_wp (wp_skip ?_)
  cases c₀
  simp_all [bodyPostS, results, Tryd.results50]
theorem assert_errno (w : World) : (Instr.typeAssert (.iface 30 (.int .i64 10)) 20 30 false).run Tryd.prog w = .ok (.int .i64 10) w := by kernel_rfl
set_option maxHeartbeats 1000000 in
set_option maxRecDepth 100000 in
theorem catch_panicking (V E : Nat) (w : World) (x0 x1 x2 x3 y : Value) (hV : Blk w V 51 [x0, x1, x2, x3]) (hE : Blk w E 30 [y]) (hne : V ≠ E) :
    CallsD Tryd.prog 50 #[.pointer (some ⟨V, 0, none⟩), .pointer (some ⟨E, 0, none⟩)] (.panicking codePanic) w fun e u' w' =>
      e = .returned (.tuple #[]) ∧ u' = .panicking [{ v := .iface 30 (.int .i64 10), recovered := true }] ∧ Blk w' V 51 [.int .i64 0, .int .i64 0, .string ⟨#[]⟩, .slice none 0 0] ∧ Blk w' E 30 [.int .i64 10] ∧ ∀ (w0 : World) (row : Option Nat), Gr w0 row w → w0.heap.size ≤ V → w0.heap.size ≤ E → Gr w0 row w' := by
  refine callsD_of_wpS Tryd.func50 rfl fun c₀ cs hu => ?_
  have hta := assert_errno
  have c0 := hV.cell? 0
  have c1 := hV.cell? 1
  have c2 := hV.cell? 2
  have c3 := hV.cell? 3
  have f0 := hV.free 0
  have f1 := hV.free 1
  have f2 := hV.free 2
  have f3 := hV.free 3
  have e0 := hE.cell? 0
  have g0 := hE.free 0
  apply wpS_seq
  apply wpS_region
  simp [wpOpsS, go_sem, recoverD, hu, Tryd.ntmps50, Exit.thenS, codePanic]
  apply wpS_seq
  apply wpS_region
  simp [wpOpsS, go_sem, Exit.thenS]
  refine wpS_cond (t := true) (by simp [Act.eval, Array.replicate]) ?_
  simp only [if_true]
  refine wpS_of_wp ?_
  go_region_with fail
  all_goals
    have hV' := (((((hV.set 0 (.int .i64 0)).set 1 (.int .i64 0)).set 2 (.string ⟨#[]⟩)).set 3 (.slice none 0 0)).other (b' := E) (i := 0) hne (.int .i64 10)).drew
    have hE' := (((((hE.other (b' := V) (i := 0) (Ne.symm hne) (.int .i64 0)).other (b' := V) (i := 1) (Ne.symm hne) (.int .i64 0)).other (b' := V) (i := 2) (Ne.symm hne) (.string ⟨#[]⟩)).other (b' := V) (i := 3) (Ne.symm hne) (.slice none 0 0)).set 0 (.int .i64 10)).drew
    have hG : ∀ (w0 : World) (row : Option Nat), Gr w0 row w → w0.heap.size ≤ V → w0.heap.size ≤ E → Gr w0 row _ := fun w0 row h h1 h2 => ((((((h.setCell (b := V) (i := 0) (.inl h1) (.int .i64 0)).setCell (b := V) (i := 1) (.inl h1) (.int .i64 0)).setCell (b := V) (i := 2) (.inl h1) (.string ⟨#[]⟩)).setCell (b := V) (i := 3) (.inl h1) (.slice none 0 0)).setCell (b := E) (i := 0) (.inl h2) (.int .i64 10)).drew)
    exact ⟨rfl, _, rfl, _, results_none rfl _ _ _, rfl, rfl, hV', hE', hG⟩
/-- Decode's answer: the tree, and whether all bytes were read. -/
def decD (l : List UInt8) : Option Tree :=
  match valD 16 l with
  | some (t, []) => some t
  | _ => none
/-- What Decode leaves. -/
def DPost (w : World) (o : Option Tree) (e : Ending) (w' : World) : Prop :=
  Gr w none w' ∧ match o with
  | some t => ∃ k n s p m c, e = .returned (.tuple #[.agg #[.int .i64 k, .int .i64 n, .string s, .slice p m c], .int .i64 0]) ∧ TV w' (fun b => w.heap.size ≤ b) t [.int .i64 k, .int .i64 n, .string s, .slice p m c]
  | none => e = .returned (.tuple #[.agg #[.int .i64 0, .int .i64 0, .string ⟨#[]⟩, .slice none 0 0], .int .i64 10])
theorem results_dec (w' : World) (V E : Nat) (tmps : Array Value) (x0 x1 x2 x3 : Value) (y : Int) (hp : tmps.getD 2 undef = .pointer (some ⟨V, 0, none⟩)) (hq : tmps.getD 3 undef = .pointer (some ⟨E, 0, none⟩)) (hV : Blk w' V 51 [x0, x1, x2, x3]) (hE : Blk w' E 30 [.int .i64 y]) : (results Tryd.f28 tmps).run Tryd.prog w' = .ok (.tuple #[.agg #[x0, x1, x2, x3], .int .i64 y]) w' := by
  have hp' : tmps[2]?.getD undef = .pointer (some ⟨V, 0, none⟩) := by simpa using hp
  have hq' : tmps[3]?.getD undef = .pointer (some ⟨E, 0, none⟩) := by simpa using hq
  have h1 := run_loadVar_row (P := Tryd.prog) w' V 51 51 #[x0, x1, x2, x3] (0, 0) _ hV Tryd.underlying51 rfl (by kernel_rfl)
  have h2 : (loadVar 30 ⟨E, 0, none⟩).run Tryd.prog w' = .ok (.int .i64 y) w' := by
    have := hE.cell? 0
    simp [go_sem, loadVar, this]
  simp [results, Tryd.results28, hp', hq', asAddr, h1, h2, Result.andThen]
set_option maxHeartbeats 1000000 in
set_option maxRecDepth 100000 in
theorem decode_any (b o cap : Nat) (l : List UInt8) (w : World) (h1 : l.length ≤ cap) (h2 : cap ≤ maxLen) (hb : b < w.heap.size) (hA : At w b o (l.map B8)) (hl : l.length ≤ 1000000) :
    Calls Tryd.prog 28 #[.slice (some ⟨b, o, none⟩) l.length cap] w fun e w' => DPost w (decD l) e w' := by
  have hmf : ∀ (fn : Fn) (first cap : Array Value) (w : World), (Instr.makeFunc fn first cap).run Tryd.prog w = .ok (.func fn first cap) w := fun _ _ _ _ => rfl
  go_enter_defers Tryd.func28, Tryd.ntmps28
  go_upto_region 3 with fail
  change Code.wp _ _ _ _ (((w.alloc (.cells #[.int .i64 0, .int .i64 0, .string ⟨#[]⟩, .slice none 0 0] 51)).alloc (.cells #[.int .i64 0] 30)).alloc (.cells #[.slice (some ⟨b, o, none⟩) l.length cap] 97))
  have hV0 := ((Blk.new w 51 [.int .i64 0, .int .i64 0, .string ⟨#[]⟩, .slice none 0 0]).alloc (.cells #[.int .i64 0] 30)).alloc (.cells #[.slice (some ⟨b, o, none⟩) l.length cap] 97)
  have hE0 := (Blk.new (w.alloc (.cells #[.int .i64 0, .int .i64 0, .string ⟨#[]⟩, .slice none 0 0] 51)) 30 [.int .i64 0]).alloc (.cells #[.slice (some ⟨b, o, none⟩) l.length cap] 97)
  have hR0 := Blk.new ((w.alloc (.cells #[.int .i64 0, .int .i64 0, .string ⟨#[]⟩, .slice none 0 0] 51)).alloc (.cells #[.int .i64 0] 30)) 97 [.slice (some ⟨b, o, none⟩) l.length cap]
  have hG0 := (((Gr.refl w none).alloc (.cells #[.int .i64 0, .int .i64 0, .string ⟨#[]⟩, .slice none 0 0] 51)).alloc (.cells #[.int .i64 0] 30)).alloc (.cells #[.slice (some ⟨b, o, none⟩) l.length cap] 97)
  simp only [World.size_alloc] at hE0 hR0
  generalize (((w.alloc (.cells #[.int .i64 0, .int .i64 0, .string ⟨#[]⟩, .slice none 0 0] 51)).alloc (.cells #[.int .i64 0] 30)).alloc (.cells #[.slice (some ⟨b, o, none⟩) l.length cap] 97)) = W at *
  have hRD : RD W (w.heap.size + 1 + 1) b l := ⟨o, cap, hR0, h1, h2, Nat.lt_of_lt_of_le hb hG0.size, hA.grown hG0 (by simp), by omega⟩
  have hv := value_any 16 (w.heap.size + 1 + 1) b 0 l W (by omega) (by omega) hRD hl hR0.lt
  clear hR0
  cases hd : valD 16 l with
  | none =>
    have hD : decD l = none := by unfold decD; rw [hd]
    rw [hd] at hv
    go_wp2_with (go_at_call 51; refine hv.mono ?_; rintro e w1 ⟨rfl, hG1⟩)
    have hG01 : Gr w none w1 := hG0.on hG1 (by simp; omega)
    have hV1 := hV0.grown hG1 (by simp; omega)
    have hE1 := hE0.grown hG1 (by simp)
    refine leaves_cons (f := 50) (args := #[.pointer (some ⟨w.heap.size, 0, none⟩), .pointer (some ⟨w.heap.size + 1, 0, none⟩)]) (by simp) (by simp [go_sem]) ?_
    refine (catch_panicking w.heap.size (w.heap.size + 1) w1 _ _ _ _ _ hV1 hE1 (by omega)).mono ?_
    rintro e u' w2 ⟨rfl, rfl, hV2, hE2, hG2⟩
    have hG02 := hG2 w none hG01 (Nat.le_refl _) (by omega)
    refine Exists.intro _ (And.intro (results_dec w2 w.heap.size (w.heap.size + 1) _ _ _ _ _ _ rfl rfl hV2 hE2) ?_)
    rw [hD]
    exact ⟨hG02, rfl⟩
  | some p =>
    obtain ⟨t, r⟩ := p
    rw [hd] at hv
    cases r with
    | cons x r =>
      have hD : decD l = none := by unfold decD; rw [hd]
      go_wp2_with (first | (go_at_call 51; refine hv.mono ?_; rintro e w1 ⟨⟨k, n, s, p, m, c, rfl, hT⟩, hR1, hG1⟩; have hV1 := hV0.grown hG1 (by simp; omega); have hE1 := hE0.grown hG1 (by simp); have hG01 : Gr w none w1 := hG0.on hG1 (by simp; omega); have f0 := hV1.free 0; have f1 := hV1.free 1; have f2 := hV1.free 2; have f3 := hV1.free 3; have c0 := hV1.cell? 0; have c1 := hV1.cell? 1; have c2 := hV1.cell? 2; have c3 := hV1.cell? 3; obtain ⟨o1, cap1, d0⟩ := hR1.cell) | (go_at_call 52; refine (want_false _ _).mono ?_; rintro e w3 ⟨rfl, rfl⟩))
      have hV4 := ((((hV1.set 0 (.int .i64 k)).set 1 (.int .i64 n)).set 2 (.string s)).set 3 (.slice p m c))
      have hE4 := ((((hE1.other (b' := w.heap.size) (i := 0) (by omega) (.int .i64 k)).other (b' := w.heap.size) (i := 1) (by omega) (.int .i64 n)).other (b' := w.heap.size) (i := 2) (by omega) (.string s)).other (b' := w.heap.size) (i := 3) (by omega) (.slice p m c))
      have hG4 := ((((hG01.setCell (b := w.heap.size) (i := 0) (.inl (Nat.le_refl _)) (.int .i64 k)).setCell (b := w.heap.size) (i := 1) (.inl (Nat.le_refl _)) (.int .i64 n)).setCell (b := w.heap.size) (i := 2) (.inl (Nat.le_refl _)) (.string s)).setCell (b := w.heap.size) (i := 3) (.inl (Nat.le_refl _)) (.slice p m c))
      refine leaves_cons (f := 50) (args := #[.pointer (some ⟨w.heap.size, 0, none⟩), .pointer (some ⟨w.heap.size + 1, 0, none⟩)]) (by simp) (by simp [go_sem]) ?_
      refine (catch_panicking w.heap.size (w.heap.size + 1) _ _ _ _ _ _ hV4 hE4 (by omega)).mono ?_
      rintro e u' w2 ⟨rfl, rfl, hV2, hE2, hG2⟩
      have hG02 := hG2 w none hG4 (Nat.le_refl _) (by omega)
      refine Exists.intro _ (And.intro (results_dec w2 w.heap.size (w.heap.size + 1) _ _ _ _ _ _ rfl rfl hV2 hE2) ?_)
      rw [hD]
      exact ⟨hG02, rfl⟩
    | nil =>
      have hD : decD l = some t := by unfold decD; rw [hd]
      go_wp2_with (first | (go_at_call 51; refine hv.mono ?_; rintro e w1 ⟨⟨k, n, s, p, m, c, rfl, hT⟩, hR1, hG1⟩; have hV1 := hV0.grown hG1 (by simp; omega); have hE1 := hE0.grown hG1 (by simp); have hG01 : Gr w none w1 := hG0.on hG1 (by simp; omega); have f0 := hV1.free 0; have f1 := hV1.free 1; have f2 := hV1.free 2; have f3 := hV1.free 3; have c0 := hV1.cell? 0; have c1 := hV1.cell? 1; have c2 := hV1.cell? 2; have c3 := hV1.cell? 3; have e0 := hE1.cell? 0; have ef0 := hE1.free 0; obtain ⟨o1, cap1, d0⟩ := hR1.cell) | (go_at_call 52; refine (want_true _ _).mono ?_; rintro e w3 ⟨rfl, rfl⟩))
      have hV4 := ((((((((hV1.set 0 (.int .i64 k)).set 1 (.int .i64 n)).set 2 (.string s)).set 3 (.slice p m c)).set 0 (.int .i64 k)).set 1 (.int .i64 n)).set 2 (.string s)).set 3 (.slice p m c)).other (b' := w.heap.size + 1) (i := 0) (by omega) (.int .i64 0)
      have hE4 := (((((((((hE1.other (b' := w.heap.size) (i := 0) (by omega) (.int .i64 k)).other (b' := w.heap.size) (i := 1) (by omega) (.int .i64 n)).other (b' := w.heap.size) (i := 2) (by omega) (.string s)).other (b' := w.heap.size) (i := 3) (by omega) (.slice p m c)).other (b' := w.heap.size) (i := 0) (by omega) (.int .i64 k)).other (b' := w.heap.size) (i := 1) (by omega) (.int .i64 n)).other (b' := w.heap.size) (i := 2) (by omega) (.string s)).other (b' := w.heap.size) (i := 3) (by omega) (.slice p m c))).set 0 (.int .i64 0)
      have hG4 := (((((((((hG01.setCell (b := w.heap.size) (i := 0) (.inl (Nat.le_refl _)) (.int .i64 k)).setCell (b := w.heap.size) (i := 1) (.inl (Nat.le_refl _)) (.int .i64 n)).setCell (b := w.heap.size) (i := 2) (.inl (Nat.le_refl _)) (.string s)).setCell (b := w.heap.size) (i := 3) (.inl (Nat.le_refl _)) (.slice p m c)).setCell (b := w.heap.size) (i := 0) (.inl (Nat.le_refl _)) (.int .i64 k)).setCell (b := w.heap.size) (i := 1) (.inl (Nat.le_refl _)) (.int .i64 n)).setCell (b := w.heap.size) (i := 2) (.inl (Nat.le_refl _)) (.string s)).setCell (b := w.heap.size) (i := 3) (.inl (Nat.le_refl _)) (.slice p m c))).setCell (b := w.heap.size + 1) (i := 0) (.inl (by omega)) (.int .i64 0)
      have hGV := (((((((((Gr.refl w1 (some w.heap.size)).setCell (b := w.heap.size) (i := 0) (.inr rfl) (.int .i64 k)).setCell (b := w.heap.size) (i := 1) (.inr rfl) (.int .i64 n)).setCell (b := w.heap.size) (i := 2) (.inr rfl) (.string s)).setCell (b := w.heap.size) (i := 3) (.inr rfl) (.slice p m c)).setCell (b := w.heap.size) (i := 0) (.inr rfl) (.int .i64 k)).setCell (b := w.heap.size) (i := 1) (.inr rfl) (.int .i64 n)).setCell (b := w.heap.size) (i := 2) (.inr rfl) (.string s)).setCell (b := w.heap.size) (i := 3) (.inr rfl) (.slice p m c))
      have hsz := hG0.size
      have hElt := hE0.lt
      have hT2 := hT.grown hGV (fun b hb => by simp; omega)
      have hT3 := hT2.grown ((Gr.refl _ (some (w.heap.size + 1))).setCell (b := w.heap.size + 1) (i := 0) (.inr rfl) (.int .i64 0)) (fun b hb => by simp; omega)
      refine leaves_cons (f := 50) (args := #[.pointer (some ⟨w.heap.size, 0, none⟩), .pointer (some ⟨w.heap.size + 1, 0, none⟩)]) (by simp) (by simp [go_sem]) ?_
      refine (catch_idle _ _ _).mono ?_
      rintro e u' w2 ⟨rfl, rfl, rfl⟩
      refine Exists.intro _ (And.intro (results_dec _ w.heap.size (w.heap.size + 1) _ _ _ _ _ _ rfl rfl hV4 hE4) ?_)
      rw [hD]
      exact ⟨hG4, _, _, _, _, _, _, rfl, hT3.mono fun b _ hb => by omega⟩
set_option maxHeartbeats 1000000 in
set_option maxRecDepth 100000 in
theorem decode_nil (w : World) :
    Calls Tryd.prog 28 #[.slice none 0 0] w fun e w' => DPost w none e w' := by
  have hmf : ∀ (fn : Fn) (first cap : Array Value) (w : World), (Instr.makeFunc fn first cap).run Tryd.prog w = .ok (.func fn first cap) w := fun _ _ _ _ => rfl
  go_enter_defers Tryd.func28, Tryd.ntmps28
  go_upto_region 3 with fail
  change Code.wp _ _ _ _ (((w.alloc (.cells #[.int .i64 0, .int .i64 0, .string ⟨#[]⟩, .slice none 0 0] 51)).alloc (.cells #[.int .i64 0] 30)).alloc (.cells #[.slice none 0 0] 97))
  have hV0 := ((Blk.new w 51 [.int .i64 0, .int .i64 0, .string ⟨#[]⟩, .slice none 0 0]).alloc (.cells #[.int .i64 0] 30)).alloc (.cells #[.slice none 0 0] 97)
  have hE0 := (Blk.new (w.alloc (.cells #[.int .i64 0, .int .i64 0, .string ⟨#[]⟩, .slice none 0 0] 51)) 30 [.int .i64 0]).alloc (.cells #[.slice none 0 0] 97)
  have hR0 := Blk.new ((w.alloc (.cells #[.int .i64 0, .int .i64 0, .string ⟨#[]⟩, .slice none 0 0] 51)).alloc (.cells #[.int .i64 0] 30)) 97 [.slice none 0 0]
  have hG0 := (((Gr.refl w none).alloc (.cells #[.int .i64 0, .int .i64 0, .string ⟨#[]⟩, .slice none 0 0] 51)).alloc (.cells #[.int .i64 0] 30)).alloc (.cells #[.slice none 0 0] 97)
  simp only [World.size_alloc] at hE0 hR0
  generalize (((w.alloc (.cells #[.int .i64 0, .int .i64 0, .string ⟨#[]⟩, .slice none 0 0] 51)).alloc (.cells #[.int .i64 0] 30)).alloc (.cells #[.slice none 0 0] 97)) = W at *
  have hv := value_nil (w.heap.size + 1 + 1) 0 0 W (show RN W (w.heap.size + 1 + 1) 0 [] from .inl ⟨rfl, hR0⟩) hR0.lt
  go_wp2_with (go_at_call 51; refine hv.mono ?_; rintro e w1 ⟨rfl, hG1⟩)
  have hG01 : Gr w none w1 := hG0.on hG1 (by simp; omega)
  have hV1 := hV0.grown hG1 (by simp; omega)
  have hE1 := hE0.grown hG1 (by simp)
  refine leaves_cons (f := 50) (args := #[.pointer (some ⟨w.heap.size, 0, none⟩), .pointer (some ⟨w.heap.size + 1, 0, none⟩)]) (by simp) (by simp [go_sem]) ?_
  refine (catch_panicking w.heap.size (w.heap.size + 1) w1 _ _ _ _ _ hV1 hE1 (by omega)).mono ?_
  rintro e u' w2 ⟨rfl, rfl, hV2, hE2, hG2⟩
  have hG02 := hG2 w none hG01 (Nat.le_refl _) (by omega)
  refine Exists.intro _ (And.intro (results_dec w2 w.heap.size (w.heap.size + 1) _ _ _ _ _ _ rfl rfl hV2 hE2) ?_)
  exact ⟨hG02, rfl⟩
end Go.Proofs.YtjibmhmaoegcnaaDoor
namespace Go.Proofs.YtjibmhmaoegcnaaDoor
open Go.RowKit Go.Shelf
set_option linter.unusedVariables false
theorem run_B8_u64 {P : Program} {w : World} {c : UInt8} {S D : TypeId} (hS : P.underlying S = some (.int .u8)) (hD : P.underlying D = some (.int .u64)) : (convert S D (B8 c)).run P w = .ok (.int .u64 (c.toNat : Int)) w := by
  unfold B8
  simp [convert, run_underlying hS, run_underlying hD, Conv.intToInt, go_sem]
  rw [IntKind.wrap_u64]; have := c.toNat_lt; omega
theorem rest_lo (z x : Nat) (hx : x < 256) : bits .or .u64 (IntKind.u64.wrap ((z : Int) * 256)) x = ((z % 72057594037927936 * 256 + x : Nat) : Int) := by
  have e : IntKind.u64.wrap ((z : Int) * 256) = ((z % 72057594037927936 * 2 ^ 8 : Nat) : Int) := by rw [IntKind.wrap_u64]; omega
  rw [e, bits_or_u64_nat _ _ (by omega) (by omega), or_low _ _ 8 (by omega)]
theorem rest_hi (z : Nat) : (z : Int) / 72057594037927936 = ((z / 72057594037927936 : Nat) : Int) := by simp
/-- One byte more: the remainder goes on. -/
theorem rest1_any (A B : Nat) (x : UInt8) (z d : Nat) (w : World) (hz : z < 2305843009213688668)
    (hA : Blk w A 109 [.int .u64 z]) (hB : w.cell? ⟨B, 0, none⟩ = some (.int .u64 2305843009213688668)) :
    Calls Tryd.prog 97 #[B8 x, .pointer (some ⟨A, 0, none⟩), .pointer (some ⟨B, 0, none⟩)] w fun e w' => (∃ v, e = .returned v) ∧ Blk w' A 109 [.int .u64 ((z * 256 + x.toNat) % 2305843009213688668 : Nat)] ∧ Gr w (some A) w' := by
  have hca : w.cell? ⟨A, 0, none⟩ = some (.int .u64 z) := hA.cell? 0
  have hfa := hA.free 0
  have hcv := @run_B8_u64 Tryd.prog w x 5 109 Tryd.underlying5 Tryd.underlying109
  go_enter Tryd.func97, Tryd.ntmps97
  go_wp2_with fail
  rw [rest_hi, rest_lo z x.toNat x.toNat_lt]
  refine (div64_dR (z / 72057594037927936) (z % 72057594037927936 * 256 + x.toNat) w (by omega) (by have := x.toNat_lt; omega)).mono ?_
  rintro e w' ⟨rfl, hG⟩
  rw [show z / 72057594037927936 * 18446744073709551616 + (z % 72057594037927936 * 256 + x.toNat) = z * 256 + x.toNat by omega]
  generalize hv : (z * 256 + x.toNat) % 2305843009213688668 = v
  have hA' := hA.grown hG (by simp)
  have hca' : w'.cell? ⟨A, 0, none⟩ = some (.int .u64 z) := hA'.cell? 0
  have hfa' := hA'.free 0
  go_wp2
  go_end0
  exact ⟨⟨_, rfl⟩, by rw [hv]; exact hA'.set 0 _, ((Gr.refl w (some A)).on hG (by simp)).setCell (.inr rfl) _⟩
/-- The remainder of the number that bytes spell. -/
def restN (l : List UInt8) : Nat := l.foldl (fun z x => (z * 256 + x.toNat) % 2305843009213688668) 0
theorem restN_snoc (l : List UInt8) (x : UInt8) : restN (l ++ [x]) = (restN l * 256 + x.toNat) % 2305843009213688668 := by simp [restN]
theorem restN_lt (l : List UInt8) : restN l < 2305843009213688668 := by
  unfold restN
  rw [← List.foldr_reverse]
  cases l.reverse with
  | nil => simp
  | cons b l => simp only [List.foldr_cons]; exact Nat.mod_lt _ (by decide)
theorem results_cell1 {P : Program} {fn : Func} {p : Tmp} {ty : TypeId} (h : fn.results = #[.cell p ty]) (tmps : Array Value) (w : World) (a : Addr) (v : Value)
    (hp : tmps.getD p undef = .pointer (some a)) (hl : (loadVar ty a).run P w = .ok v w) : (results fn tmps).run P w = .ok v w := by
  have hp' : tmps[p]?.getD undef = .pointer (some a) := by simpa using hp
  simp [results, h, hp', asAddr, hl]
theorem load_u64 (w : World) (a : Addr) (v : Value) (h : w.cell? a = some v) : (loadVar 109 a).run Tryd.prog w = .ok v w := by
  simp [go_sem, loadVar, h]
theorem index_dg (l : List UInt8) (hl : l.length = 32) (k : Nat) (x : UInt8) (hk : k < 32) (hx : l[k]? = some x) : ∀ w, (Instr.index 23 (.agg (l.map B8).toArray) (.int .i64 (k : Int))).run Tryd.prog w = .ok (B8 x) w := by
  intro w
  refine run_index_arr _ k _ Tryd.underlying23 (by kernel_rfl) (by kernel_rfl) hk ?_
  simp [hx]
set_option maxHeartbeats 1000000 in
set_option maxRecDepth 100000 in
theorem rest_any (l : List UInt8) (w : World) (hl : l.length = 32) :
    Calls Tryd.prog 90 #[Dg l, .int .u64 2305843009213688668] w fun e w' => e = .returned (.int .u64 (restN l)) ∧ Gr w none w' := by
  go_enter Tryd.func90, Tryd.ntmps90
  go_upto_region 1 with fail
  have hD := Blk.new w 23 (l.map B8)
  change Code.wp _ _ _ _ (((w.alloc (.cells (l.map B8).toArray 23)).alloc (.cells #[.int .u64 2305843009213688668] 109)).alloc (.cells #[.int .u64 0] 109))
  have hY := (Blk.new (w.alloc (.cells (l.map B8).toArray 23)) 109 [.int .u64 2305843009213688668]).alloc (.cells #[.int .u64 0] 109)
  have hA := Blk.new ((w.alloc (.cells (l.map B8).toArray 23)).alloc (.cells #[.int .u64 2305843009213688668] 109)) 109 [.int .u64 0]
  have hD := (hD.alloc (.cells #[.int .u64 2305843009213688668] 109)).alloc (.cells #[.int .u64 0] 109)
  have hG := (((Gr.refl w none).alloc (.cells (l.map B8).toArray 23)).alloc (.cells #[.int .u64 2305843009213688668] 109)).alloc (.cells #[.int .u64 0] 109)
  simp only [World.size_alloc] at hY hA
  generalize (((w.alloc (.cells (l.map B8).toArray 23)).alloc (.cells #[.int .u64 2305843009213688668] 109)).alloc (.cells #[.int .u64 0] 109)) = W at *
  go_wp2_with (refine wl_load_blk rfl _ _ rfl w.heap.size (l.map B8) _ _ hD rfl Tryd.underlying23 rfl (by rw [List.length_map, hl]; kernel_rfl) ?_)
  clear hD
  go_loopw [10] (fun i wr => ∃ m : Nat, m ≤ 32 ∧ i = .int .i64 m ∧ Blk wr (w.heap.size + 1 + 1) 109 [.int .u64 (restN (l.take m))] ∧ Blk wr (w.heap.size + 1) 109 [.int .u64 2305843009213688668] ∧ Gr w none wr) (fun i _ => (32 - intOf i).toNat)
  case atStart => exact ⟨0, by omega, rfl, hA, hY, hG⟩
  case round =>
    obtain ⟨m, hm, rfl, hA, hY, hG⟩ := hrel
    by_cases hlt : m < 32
    · obtain ⟨x, hx⟩ : ∃ x, l[m]? = some x := ⟨l[m], by simp [hl, hlt]⟩
      have hsn : l.take (m + 1) = l.take m ++ [x] := by
        have hml : m < l.length := by omega
        rw [List.getElem?_eq_getElem hml] at hx
        rw [← Option.some.inj hx]; exact (List.take_append_getElem hml).symm
      have hix := index_dg l hl m x hlt hx
      have HR := Lib.hid (restN_lt (l.take m))
      go_wp2_with (refine (rest1_any _ _ x _ 0 _ HR.out hA (hY.cell? 0)).mono ?_; rintro e w' ⟨⟨v, rfl⟩, hA', hG'⟩)
      go_roundw
      case rel => exact ⟨m + 1, by omega, int_eq (by omega), by rw [hsn, restN_snoc]; exact hA', hY.grown hG' (by simp), hG.on hG' (by simp; omega)⟩
      case measure => simp [intOf]; omega
    · obtain rfl : m = 32 := by omega
      have hca : wr.cell? ⟨w.heap.size + 1 + 1, 0, none⟩ = some (.int .u64 (restN (l.take 32))) := hA.cell? 0
      have hfa := hA.free 0
      rw [List.take_of_length_le (by omega)] at hca
      go_wp2
      exact bodyPost_ret (results_cell1 rfl _ _ _ _ rfl (load_u64 _ _ _ ((hA.set 0 _).cell? 0))) rfl ⟨rfl, hG.setCell (.inl (by omega)) _⟩
/-- A number of the field from bytes, under a tag. -/
def scalarN (tag l : List UInt8) : Nat := 1 + restN (tagged tag l)
theorem scalarN_lt (tag l : List UInt8) : scalarN tag l < 2305843009213688669 := by have := restN_lt (tagged tag l); unfold scalarN; omega
theorem scalarN_pos (tag l : List UInt8) : 1 ≤ scalarN tag l := by unfold scalarN; omega
theorem scalar_any (s : ByteArray) (v : Value) (l : List UInt8) (w : World) (hs : s.size ≤ 1000) (hl : l.length ≤ 900000) (hv : Bytes w v l) (hK : Laid w) :
    Calls Tryd.prog 68 #[.string s, v] w fun e w' => e = .returned (.int .i64 (scalarN s.data.toList l)) ∧ Gr w none w' := by
  have HZ := Lib.hid (restN_lt (tagged s.data.toList l))
  have hv2 : (((scalarN s.data.toList l : Nat)) : Int) = 1 + (restN (tagged s.data.toList l) : Int) := by unfold scalarN; omega
  rw [hv2]; clear hv2
  obtain ⟨z, hz⟩ : ∃ z, z = restN (tagged s.data.toList l) := ⟨_, rfl⟩
  rw [← hz] at HZ ⊢
  have HE := Lib.hid hz; clear hz
  go_enter Tryd.func68, Tryd.ntmps68
  go_wp2_with (go_at_call 17; refine (tagged_any s v l _ hs hl hv hK).mono ?_; rintro e w1 ⟨rfl, hG1⟩)
  refine (rest_any (tagged s.data.toList l) _ (tagged_length _ _)).mono ?_
  rintro e w2 ⟨rfl, hG2⟩
  rw [← HE.out]
  have e5 := wrap_i64' z (Nat.lt_trans HZ.out (by decide))
  have e6 : wrap64 (1 + (z : Int)) = 1 + z := by have := HZ.out; unfold wrap64; omega
  go_wp2
  go_ret
  exact ⟨congrArg Ending.returned (int_eq e6), hG1.trans hG2⟩
/-- A number as eight bytes. -/
def be8 (x : Nat) : List UInt8 := (List.range 8).map fun j => UInt8.ofNat (x / 2 ^ (56 - 8 * j))
theorem be8_length (x : Nat) : (be8 x).length = 8 := by simp [be8]
theorem flat_len (ps : List Nat) : (ps.flatMap be8).length = 8 * ps.length := by
  induction ps with
  | nil => rfl
  | cons a l ih => rw [List.flatMap_cons, List.length_append, be8_length, ih, List.length_cons]; omega
theorem be8_take (x j : Nat) (y : UInt8) (hj : j < 8) (hy : y = UInt8.ofNat (x / 2 ^ (56 - 8 * j))) : (be8 x).take (j + 1) = (be8 x).take j ++ [y] := by
  subst hy
  have h : j < (be8 x).length := by rw [be8_length]; exact hj
  rw [← List.take_append_getElem h]
  simp [be8]
theorem be8_val (x j : Nat) (y : UInt8) (hy : y = UInt8.ofNat (x / 2 ^ (56 - 8 * j))) (hx : x < 18446744073709551616) : Value.int .u8 (IntKind.u64.wrap (x : Int) / 2 ^ (56 - 8 * j) % 256) = B8 y := by
  subst hy
  rw [wrap_lt x hx]
  unfold B8
  refine int_eq ?_
  rw [show (UInt8.ofNat (x / 2 ^ (56 - 8 * j))).toNat = x / 2 ^ (56 - 8 * j) % 256 from UInt8.toNat_ofNat']
  simp
set_option maxHeartbeats 2000000 in
set_option maxRecDepth 100000 in
theorem hash_any (s : ByteArray) (v : Value) (l : List UInt8) (pb pc : Nat) (ps : List Nat) (w : World) (hs : s.size ≤ 1000) (hl : l.length ≤ 800000) (hv : Bytes w v l) (hK : Laid w)
    (hp : At w pb 0 (ps.map fun x : Nat => Value.int .i64 x)) (hpl : ps.length ≤ 10) (hp1 : 1 ≤ ps.length) (hpx : ∀ x ∈ ps, x < 9223372036854775808) :
    Calls Tryd.prog 40 #[.string s, v, .slice (some ⟨pb, 0, none⟩) ps.length pc] w fun e w' => e = .returned (.int .i64 (scalarN s.data.toList (ps.flatMap be8 ++ l))) ∧ Gr w none w' := by
  obtain ⟨i0, hi, hz0, hz1, hz2⟩ := info_u8 info_u8_here
  obtain ⟨tb, tf, tc, rfl, ht1, ht2, ht3, ht4⟩ := hv.ex
  have hX := Lib.hid hpx; clear hpx
  go_enter Tryd.func40, Tryd.ntmps40
  go_wp2
  go_loopw [7, 13] (fun b i wr => ∃ m : Nat, m ≤ ps.length ∧ i = .int .i64 m ∧ OwnB wr w.heap.size b ((ps.take m).flatMap be8) ∧ (1 ≤ m → b ≠ .slice none 0 0) ∧ Gr w none wr) (fun _ i _ => (ps.length - intOf i).toNat)
  case atStart => exact ⟨0, by omega, rfl, ⟨rfl, .inl ⟨rfl, rfl⟩⟩, fun h => by omega, Gr.refl _ _⟩
  case round =>
    obtain ⟨m, hm, rfl, hown, hnn, hG⟩ := hrel
    by_cases hlt : m < ps.length
    · have hc := hG.cell (hp.get m (by simp; exact hlt)) (by simp)
      obtain ⟨x, hx⟩ : ∃ x, x = ps[m] := ⟨_, rfl⟩
      rw [Nat.zero_add, List.getElem_map, ← hx] at hc
      have hsn : ps.take (m + 1) = ps.take m ++ [x] := by rw [hx]; exact (List.take_append_getElem hlt).symm
      have HX := Lib.hid (hX.out x (by rw [hx]; exact List.getElem_mem hlt))
      have HS := Lib.hid hsn; clear hsn hx
      have HN := Lib.hid hnn; clear hnn
      go_wp2
      clear hc
      go_loopw [7, 10] (fun b i wr => ∃ j : Nat, j ≤ 8 ∧ i = .int .i64 (56 - 8 * (j : Int)) ∧ OwnB wr w.heap.size b ((ps.take m).flatMap be8 ++ (be8 x).take j) ∧ (1 ≤ m ∨ 1 ≤ j → b ≠ .slice none 0 0) ∧ Gr w none wr) (fun _ i _ => (intOf i + 8).toNat)
      case atStart => exact ⟨0, by omega, int_eq (by omega), by simpa using hown, fun h => HN.out (by omega), hG⟩
      case round =>
        clear hown HN hG
        obtain ⟨j, hj, rfl, hown, hnn, hG⟩ := hrel
        have HN := Lib.hid hnn; clear hnn
        by_cases hj8 : j < 8
        · obtain ⟨y, hy⟩ : ∃ y, y = UInt8.ofNat (x / 2 ^ (56 - 8 * j)) := ⟨_, rfl⟩
          have hb8 : Value.int .u8 (IntKind.u64.wrap (x : Int) / 2 ^ (56 - 8 * j) % 256) = B8 y := be8_val x j y hy (Nat.lt_trans HX.out (by decide))
          have HB := Lib.hid (be8_take x j y hj8 hy)
          have hat : At (wr.alloc (.cells #[.int .u8 (IntKind.u64.wrap (x : Int) / 2 ^ (56 - 8 * j) % 256)] 5)) wr.heap.size 0 ([y].map B8) := by
            show At _ _ 0 [B8 y]
            rw [← hb8]; exact at_new wr [_] _
          have hlen : ((ps.take m).flatMap be8 ++ (be8 x).take j).length ≤ 1000 := by
            rw [List.length_append, flat_len, List.length_take, List.length_take]; omega
          have HLN := Lib.hid hlen
          have ho := OwnB.own hown
          clear hlen hy hb8
          go_wp2_with (at_builtin; refine wpList_append_own _ rfl _ _ 28 rfl w.heap.size 5 i0 (.int .u8 0) 1 1 Tryd.underlying28 hi hz0 hz1 hz2 rfl (by decide) u7 _ _ rfl (hown.alloc _) ⟨wr.heap.size, 0, none⟩ 1 1 ([y].map B8) rfl rfl (OwnB.at_of hat) (ones_B8 _) (by have := HLN.out; unfold maxLen; omega) (by have := HLN.out; omega) (by have := hG.size; simp; omega) ?_; intro v' w1 hown' hgrow hnil)
          go_roundw
          case rel => exact ⟨j + 1, by omega, int_eq (by omega), by rw [HB.out, ← List.append_assoc]; exact OwnB.of_append hown', fun _ e => by simpa using (hnil.1 e).2, (hG.alloc _).on hgrow (fun b hb => .inl (ho b hb))⟩
          case measure => simp [intOf]; omega
        · obtain rfl : j = 8 := by omega
          have HF := HN.out (.inr (by omega))
          go_wp2
          exact ⟨⟨m + 1, by omega, int_eq (by omega), by rw [HS.out, List.flatMap_append]; simpa [List.take_of_length_le (Nat.le_of_eq (be8_length x))] using hown, fun _ => HF, hG⟩, by simp [intOf]; omega⟩
    · obtain rfl : m = ps.length := by omega
      have hnn := hnn hp1
      rw [List.take_length] at hown
      have HLN := Lib.hid (flat_len ps)
      have HO := Lib.hid (OwnB.own hown)
      have hat := ht4.grown hG (by simp)
      go_wp2_with (first
        | (at_builtin; refine wpList_append_own _ rfl _ _ 28 rfl w.heap.size 5 i0 (.int .u8 0) 1 1 Tryd.underlying28 hi hz0 hz1 hz2 rfl (by decide) u7 _ _ rfl hown ⟨tb, tf, none⟩ l.length tc (l.map B8) rfl (by simp) (OwnB.at_of hat) (ones_B8 _) (by have := HLN.out; unfold maxLen; omega) (by have := HLN.out; omega) hG.size ?_; intro v' w1 hown' hgrow hnil)
        | (go_at_call 68; refine (scalar_any s v' (ps.flatMap be8 ++ l) _ hs (by rw [List.length_append, HLN.out]; omega) ((OwnB.of_append hown').bytes (fun e => hnn (hnil.1 e).1)) (hK.new (hG.on hgrow (fun b hb => .inl (HO.out b hb))))).mono ?_; rintro e w2 ⟨rfl, hG2⟩))
      go_ret
      exact ⟨rfl, (hG.on hgrow (fun b hb => .inl (HO.out b hb))).trans hG2⟩
end Go.Proofs.YtjibmhmaoegcnaaDoor
