/- aloneInts: what it shows. -/
import Derived.Test.YtkcbkiognkkhlaaWoH
namespace Go.Proofs.Ytkcbkiognkkhlaa
open Go Go.Fw

def vv (i : Nat) : Int := IntKind.wrap .i64 ((-9000 : Int) - (i : Int))
theorem vv_val (i : Nat) : IntKind.wrap .i64 ((-9000 : Int) - (i : Int)) = vv i := rfl

theorem book_len {bk base : Nat} {s0 : Sl} {ss : List Sl} {h : Heap} (hb : BookR h bk base s0 ss) {K : Sl → Prop} (hk : K s0) : derefP (some ⟨bk, 0, none⟩) fun b o => ldL h b (o + 2) K :=
  deref_ ⟨s0, by rw [cell_block hb.cells]; rfl, hk⟩
theorem book_row {bk base : Nat} {s0 x : Sl} {ss : List Sl} {h : Heap} (hb : BookR h bk base s0 ss) {n : Nat} (hx : ss[n]? = some x) {K : Sl → Prop} (hk : K x) :
    derefP (some ⟨bk, 0, none⟩) fun b o => ldL h b (o + 2) fun t => idxA t.ptr t.len (n : Int) 1 fun b o => ldL h b o K :=
  book_len hb (Row.idx hb.own.row rfl (v := slV x) (by simp [hx]) fun _ _ _ hc => ⟨x, hc, hk⟩)

def inRows (ss : List Sl) (k : Nat) : Prop := ∃ x ∈ ss, x.blk = some k
theorem BookR.upd {bk base : Nat} {s0 : Sl} {ss : List Sl} {h h' : Heap} (hb : BookR h bk base s0 ss) (hbase : base ≤ h.size) (hu : Upd (inRows ss) h h') : BookR h' bk base s0 ss := by
  have hlt := hb.lt
  refine ⟨?_, ?_, hlt, fun x hx k hk => ?_⟩
  · rw [hu.old bk (by omega) fun ⟨x, hx, hk⟩ => (hb.apart x hx bk hk).1 rfl]; exact hb.cells
  · exact hb.own.congr fun k hs hl _ => hu.old k hl fun ⟨x, hx, hk⟩ => (hb.apart x hx k hk).2.1 hs
  · have := hb.apart x hx k hk
    exact ⟨this.1, this.2.1, by have := hu.size; omega⟩

/-- the first loop: every row is written over -/
structure Wrote (h : Heap) (ss : List Sl) (n : Nat) : Prop where
  row : ∀ (j : Nat) (x : Sl), ss[j]? = some x → ∃ l : List Int, Own h 0 x 1 (l.map iv) ∧ (j < n → l = List.replicate x.len (vv j))

theorem replicate_full {l : List Int} {n : Nat} {v : Int} (h : l.length = n) (ht : l.take n = List.replicate n v) : l = List.replicate n v := by
  rw [← ht, List.take_of_length_le (by omega)]

theorem Own.blen {h : Heap} {base : Nat} {x : Sl} {l : List Int} (ho : Own h base x 1 (l.map iv)) : l.length = x.len := by
  have := ho.len; simp at this; omega

structure Grew (h1 h : Heap) (all : Sl) (gs ss : List Sl) : Prop where
  own : Own h h1.size all 1 (gs.map slV)
  row : ∀ (j : Nat) (x : Sl), ss[j]? = some x → Ints h x (List.replicate x.len (vv j)) ∧ (gs.length ≤ j → Own h 0 x 1 ((List.replicate x.len (vv j)).map iv))
  grown : ∀ (j : Nat) (g x : Sl), gs[j]? = some g → ss[j]? = some x → Ints h g (List.replicate (x.len + 20) (vv j)) ∧ (g.blk = x.blk ∨ ∀ k, g.blk = some k → h1.size ≤ k) ∧ ∀ k, g.blk = some k → k < h.size ∧ all.blk ≠ some k

theorem aloneInts_spec {bk base : Nat} {s0 : Sl} {ss : List Sl} {h : Heap} {K : Bool → Heap → Prop} (hb : BookR h bk base s0 ss) (hbase : base ≤ h.size) (hn : ss.length ≤ 1099511627776)
    (hrows : ∀ (j : Nat) (x : Sl), ss[j]? = some x → x.len ≤ 1099511627776 ∧ ∃ l : List Int, Own h 0 x 1 (l.map iv))
    (hd : ∀ (i j : Nat) (x y : Sl) (k : Nat), ss[i]? = some x → ss[j]? = some y → x.blk = some k → y.blk = some k → i = j)
    (hk : ∀ h', Upd (inRows ss) h h' → K true h') : m_spillwaymem_Book_aloneInts (some ⟨bk, 0, none⟩) K h := by
  unfold m_spillwaymem_Book_aloneInts g_spillwaymem_Book_aloneInts
  have hs0 : s0.len = ss.length := by have := hb.own.len; simp at this; omega
  refine bindI_intro (loopM_intro (fun s h' => ∃ n : Nat, s.1 = (n : Int) ∧ n ≤ ss.length ∧ Upd (inRows ss) h h' ∧ Wrote h' ss n) (fun s _ => ss.length - s.1.toNat)
    ⟨0, rfl, Nat.zero_le _, Upd.refl _ h, ⟨fun j x hx => by obtain ⟨l, hl⟩ := (hrows j x hx).2; exact ⟨l, hl, fun h => by omega⟩⟩⟩ ?_)
  rintro ⟨i, u⟩ h' ⟨n, hi, hnl, hu, hw⟩
  dsimp only at hi
  subst hi
  dsimp only
  refine book_len (hb.upd hbase hu) (iteP_dec (fun hlt => bindI_intro ?_) (fun hge => bindI_intro ?_))
  · -- one row written over
    have hn1 : n < ss.length := by omega
    have hx : ss[n]? = some ss[n] := List.getElem?_eq_getElem hn1
    have hmem : ss[n] ∈ ss := List.getElem_mem hn1
    generalize ss[n] = x at hx hmem
    have hxl := (hrows n x hx).1
    refine loopM_intro (fun s h2 => ∃ m : Nat, s.1 = (m : Int) ∧ m ≤ x.len ∧ Upd (inRows ss) h h2 ∧ (∃ l : List Int, Own h2 0 x 1 (l.map iv) ∧ l.take m = List.replicate m (vv n)) ∧
      ∀ (j : Nat) (y : Sl), ss[j]? = some y → j ≠ n → ∃ l : List Int, Own h2 0 y 1 (l.map iv) ∧ (j < n → l = List.replicate y.len (vv j))) (fun s _ => x.len - s.1.toNat)
      ⟨0, rfl, Nat.zero_le _, hu, by obtain ⟨l, hl, _⟩ := hw.row n x hx; exact ⟨l, hl, by simp⟩, fun j y hy _ => hw.row j y hy⟩ ?_
    rintro ⟨i, u⟩ h2 ⟨m, hi, hml, hu2, ⟨l, hl, hlt2⟩, hoth⟩
    dsimp only at hi
    subst hi
    dsimp only
    have hB := hb.upd hbase hu2
    have hll := Own.blen hl
    refine book_row hB hx (iteP_dec (fun hm => ?_) (fun hm => bindI_intro ?_))
    · refine book_row hB hx ?_
      rw [vv_val]
      refine Own.store (m := m) hl (by omega) (vv n) fun h3 hl3 hu3 hs3 => bindI_intro ?_
      rw [wrap64 (n := (m : Int) + 1) (by omega) (by omega)]
      refine ⟨⟨m + 1, by omega, by omega, hu2.trans (hu3.mono fun k _ hk => ⟨x, hmem, hk⟩), ⟨_, hl3, ?_⟩, fun j y hy hj => ?_⟩, by omega⟩
      · rw [List.take_succ_eq_append_getElem (by simp; omega), List.take_set_of_le (Nat.le_refl _), hlt2, List.replicate_succ']
        simp
      · obtain ⟨l', hl', hh⟩ := hoth j y hy hj
        exact ⟨l', hl'.congr fun k hk hkl _ => hu3.old k hkl fun hxk => hj (hd j n y x k hy hx hk hxk), hh⟩
    · have hm' : m = x.len := by omega
      subst hm'
      rw [wrap64 (n := (n : Int) + 1) (by omega) (by omega)]
      refine ⟨⟨n + 1, by omega, by omega, hu2, ⟨fun j y hy => ?_⟩⟩, by omega⟩
      rcases Nat.lt_trichotomy j n with hj | hj | hj
      · obtain ⟨l', hl', hh⟩ := hoth j y hy (by omega)
        exact ⟨l', hl', fun _ => hh hj⟩
      · subst hj
        rw [hx] at hy
        cases hy
        exact ⟨l, hl, fun _ => replicate_full hll hlt2⟩
      · obtain ⟨l', hl', hh⟩ := hoth j y hy (by omega)
        exact ⟨l', hl', fun _ => by omega⟩
  · have hn' : n = ss.length := by omega
    subst hn'
    have hw1 : ∀ (j : Nat) (x : Sl), ss[j]? = some x → Own h' 0 x 1 ((List.replicate x.len (vv j)).map iv) := fun j x hx => by
      obtain ⟨l, hl, hh⟩ := hw.row j x hx
      have hj : j < ss.length := by
        rcases Nat.lt_or_ge j ss.length with h9 | h9
        · exact h9
        · rw [List.getElem?_eq_none h9] at hx; cases hx
      rw [hh hj] at hl
      exact hl
    have hxlt : ∀ (j : Nat) (x : Sl) (k : Nat), ss[j]? = some x → x.blk = some k → k < h'.size := fun j x k hx hk => ((hw1 j x hx).lt hk).2
    refine loopM_intro (fun s h2 => ∃ gs : List Sl, s.2.1 = (gs.length : Int) ∧ gs.length ≤ ss.length ∧ Upd (inRows ss) h' h2 ∧ Grew h' h2 s.1 gs ss) (fun s _ => ss.length - s.2.1.toNat)
      ⟨[], rfl, Nat.zero_le _, Upd.refl _ h', ⟨Own.nil _ _ 1, fun j x hx => ⟨(hw1 j x hx).row, fun _ => hw1 j x hx⟩, by simp⟩⟩ ?_
    rintro ⟨all, i, u⟩ h2 ⟨gs, hi, hgl, hu2, hg⟩
    dsimp only at hi hg
    subst hi
    dsimp only
    have hB := hb.upd hbase (hu.trans hu2)
    have hs2 := hu2.size
    refine book_len hB (iteP_dec (fun hlt => ?_) (fun hge => bindI_intro ?_))
    · have hn1 : gs.length < ss.length := by omega
      have hx : ss[gs.length]? = some ss[gs.length] := List.getElem?_eq_getElem hn1
      have hmem : ss[gs.length] ∈ ss := List.getElem_mem hn1
      generalize ss[gs.length] = x at hx hmem
      have hxl := (hrows gs.length x hx).1
      have hx2 := (hg.row gs.length x hx).2 (Nat.le_refl _)
      have hxk := hxlt gs.length x
      refine book_row hB hx (bindI_intro ?_)
      refine loopM_intro (fun s h3 => ∃ m : Nat, s.2.1 = (m : Int) ∧ m ≤ 20 ∧ Own h3 0 s.1 1 ((List.replicate (x.len + m) (vv gs.length)).map iv) ∧ (s.1.blk = x.blk ∨ ∀ k, s.1.blk = some k → h2.size ≤ k) ∧
        Ints h3 x (List.replicate x.len (vv gs.length)) ∧ Upd (fun k => x.blk = some k) h2 h3) (fun s _ => 20 - s.2.1.toNat)
        ⟨0, rfl, by omega, hx2, .inl rfl, hx2.row, Upd.refl _ h2⟩ ?_
      rintro ⟨g, i, u⟩ h3 ⟨m, hi, hm20, hgo, hgb, hgx, hu3⟩
      dsimp only at hi hgo hgb
      subst hi
      dsimp only
      have hs3 := hu3.size
      have hgol := Own.blen hgo
      simp only [List.length_replicate] at hgol
      refine iteP_dec (fun hm => ?_) (fun hm => ?_)
      · rw [vv_val]
        refine newC_intro ?_
        have hext := Ext.push h3 (.cells [iv (vv gs.length)].toArray 3)
        have hrow : Row (h3.push (.cells [iv (vv gs.length)].toArray 3)) ⟨some ⟨h3.size, 0, none⟩, 1, 1⟩ 1 [iv (vv gs.length)] := (Own.newC (h := h3) (cells := [iv (vv gs.length)]) (t := 3) (size := 1) (n := 1) rfl (by decide)).row
        refine hrow.rd ?_
        have hgo3 := hgo.congr (h' := h3.push (.cells [iv (vv gs.length)].toArray 3)) fun k _ hl _ => hext.old k hl
        refine Own.app2 hgo3 (by simp) rfl rfl (by omega) (by omega) (Nat.zero_le _) fun g' h4 ho4 hl4 hu4 hblk4 => bindI_intro ?_
        rw [wrap64 (n := (m : Int) + 1) (by omega) (by omega)]
        have hs4 := hu4.size
        simp only [Array.size_push] at hs4
        have hrep : (List.replicate (x.len + m) (vv gs.length)).map iv ++ [iv (vv gs.length)] = (List.replicate (x.len + (m + 1)) (vv gs.length)).map iv := by
          rw [← Nat.add_assoc, List.replicate_succ', List.map_append]; rfl
        have hgx4 : Ints h4 x (List.replicate x.len (vv gs.length)) := by
          rcases hblk4 with e | ⟨_, he⟩
          · rcases hgb with e2 | e2
            · have hsplit : List.replicate (x.len + (m + 1)) (vv gs.length) = List.replicate x.len (vv gs.length) ++ List.replicate (m + 1) (vv gs.length) := by
                first | rw [List.replicate_append_replicate] | rw [List.append_replicate_replicate] | simp
              rw [hrep, hsplit, List.map_append] at ho4
              exact Row.of_prefix hx2 ho4 (e.trans e2) (by simp)
            · refine (hgx.ext hext).congr fun b o hp _ hl => hu4.old b hl fun hgk => ?_
              have h9 := e2 b hgk
              have := hxk b hx (by simp [Sl.blk, hp])
              omega
          · exact (hgx.ext hext).ext he
        refine ⟨⟨m + 1, by omega, by omega, by rw [← hrep]; exact ho4, ?_, hgx4, ⟨by omega, fun k hk hS => ?_⟩⟩, by omega⟩
        · rcases hblk4 with e | ⟨e, _⟩
          · rw [e]; exact hgb
          · refine .inr fun k hk => ?_
            rw [e] at hk
            simp at hk
            omega
        · have hk3 : h3[k]? = h2[k]? := hu3.old k hk hS
          refine ((hu4.old k (by simp; omega) fun hgk => ?_).trans (hext.old k (by omega))).trans hk3
          rcases hgb with e2 | e2
          · rw [e2] at hgk; exact hS hgk
          · have := e2 k hgk; omega
      · have hm' : m = 20 := by omega
        subst hm'
        refine newC_intro ?_
        have hext := Ext.push h3 (.cells [slV g].toArray 29)
        have hrow : Row (h3.push (.cells [slV g].toArray 29)) ⟨some ⟨h3.size, 0, none⟩, 1, 1⟩ 1 [slV g] := (Own.newC (h := h3) (cells := [slV g]) (t := 29) (size := 1) (n := 1) rfl (by decide)).row
        refine hrow.rd ?_
        have hallx : ∀ k, all.blk = some k → x.blk ≠ some k := fun k hk hxe => by
          have := (hg.own.lt hk).1
          have := hxk k hx hxe
          omega
        have hall3 := (hg.own.congr (h' := h3) fun k hk hl _ => hu3.old k hl (hallx k hk)).congr (h' := h3.push (.cells [slV g].toArray 29)) fun k _ hl _ => hext.old k hl
        have hall := hg.own.len
        simp only [List.length_map, Nat.mul_one] at hall
        refine Own.app2 hall3 (by simp) rfl rfl (by omega) (by omega) (by simp; omega) fun all' h4 ho4 hl4 hu4 hblk4 => bindI_intro ?_
        rw [wrap64 (n := (gs.length : Int) + 1) (by omega) (by omega)]
        have hs4 := hu4.size
        simp only [Array.size_push] at hs4
        have hold : ∀ k, k < h2.size → x.blk ≠ some k → all.blk ≠ some k → h4[k]? = h2[k]? := fun k hk hxk hak =>
          ((hu4.old k (by simp; omega) hak).trans (hext.old k (by omega))).trans (hu3.old k hk hxk)
        have hold3 : ∀ k, k < h3.size → all.blk ≠ some k → h4[k]? = h3[k]? := fun k hk hak =>
          (hu4.old k (by simp; omega) hak).trans (hext.old k (by omega))
        have hnew : ∀ k, k < h3.size → all.blk ≠ some k → all'.blk ≠ some k := fun k hk hak => by
          rcases hblk4 with e | ⟨e, _⟩
          · rw [e]; exact hak
          · rw [e]; intro he; simp at he; omega
        refine ⟨⟨gs ++ [g], by simp, by simp; omega, ⟨by omega, fun k hk hS => ?_⟩, ?_⟩, by simp; omega⟩
        · rw [hold k (by omega) (fun hxe => hS ⟨x, hmem, hxe⟩) (fun ha => by have := (hg.own.lt ha).1; omega)]
          exact hu2.old k hk hS
        · refine ⟨by rw [List.map_append]; exact ho4, fun j y hy => ?_, fun j g' y hg' hy => ?_⟩
          · have hyk := hxlt j y
            have hya : ∀ k, y.blk = some k → all.blk ≠ some k := fun k hk ha => by
              have := hyk k hy hk; have := (hg.own.lt ha).1; omega
            rcases Classical.em (j = gs.length) with hj | hj
            · subst hj
              rw [hx] at hy
              cases hy
              refine ⟨hgx.congr fun b o hp _ hl => hold3 b hl (hya b (by simp [Sl.blk, hp])), fun h9 => ?_⟩
              simp at h9
              omega
            · have hyx : ∀ k, y.blk = some k → x.blk ≠ some k := fun k hk hxe => hj (hd j gs.length y x k hy hx hk hxe)
              refine ⟨(hg.row j y hy).1.congr fun b o hp _ hl => hold b hl (hyx b (by simp [Sl.blk, hp])) (hya b (by simp [Sl.blk, hp])), fun h9 => ?_⟩
              simp at h9
              exact ((hg.row j y hy).2 (by omega)).congr fun k hk hl _ => hold k hl (hyx k hk) (hya k hk)
          · rcases Nat.lt_or_ge j gs.length with hj | hj
            · rw [List.getElem?_append_left hj] at hg'
              obtain ⟨q1, q2, q3⟩ := hg.grown j g' y hg' hy
              have hgx' : ∀ k, g'.blk = some k → x.blk ≠ some k := fun k hk hxe => by
                rcases q2 with e | e
                · rw [e] at hk
                  have := hd j gs.length y x k hy hx hk hxe
                  omega
                · have := e k hk
                  have := hxk k hx hxe
                  omega
              refine ⟨q1.congr fun b o hp _ hl => hold b hl (hgx' b (by simp [Sl.blk, hp])) (q3 b (by simp [Sl.blk, hp])).2, q2, fun k hk => ?_⟩
              have := q3 k hk
              exact ⟨by omega, hnew k (by omega) this.2⟩
            · have hj' : j = gs.length := by
                rcases Nat.lt_or_ge gs.length j with h9 | h9
                · rw [List.getElem?_append_right hj, List.getElem?_eq_none (by simp; omega)] at hg'; cases hg'
                · omega
              subst hj'
              rw [List.getElem?_append_right (Nat.le_refl _)] at hg'
              simp at hg'
              subst hg'
              rw [hx] at hy
              cases hy
              have hga : ∀ k, g.blk = some k → all.blk ≠ some k := fun k hk ha => by
                rcases hgb with e | e
                · rw [e] at hk; exact hallx k ha hk
                · have := e k hk
                  have := (hg.own.lt ha).2
                  omega
              refine ⟨hgo.row.congr fun b o hp _ hl => hold3 b hl (hga b (by simp [Sl.blk, hp])), ?_, fun k hk => ?_⟩
              · rcases hgb with e | e
                · exact .inl e
                · exact .inr fun k hk => by have := e k hk; omega
              · have := (hgo.lt hk).2
                exact ⟨by omega, hnew k this (hga k hk)⟩
    · have hgl' : gs.length = ss.length := by omega
      have hall := hg.own.len
      simp only [List.length_map, Nat.mul_one] at hall
      have hd' := hu.trans hu2
      refine loopM_intro (fun s h3 => h3 = h2 ∧ ∃ n : Nat, s.1 = (n : Int) ∧ n ≤ ss.length) (fun s _ => ss.length - s.1.toNat) ⟨rfl, 0, rfl, Nat.zero_le _⟩ ?_
      rintro ⟨i, u⟩ h3 ⟨rfl, n, hi, hnl⟩
      dsimp only at hi
      subst hi
      dsimp only
      refine iteP_dec (fun hlt => bindI_intro ?_) (fun _ => hk _ hd')
      have hn1 : n < ss.length := by omega
      have hx : ss[n]? = some ss[n] := List.getElem?_eq_getElem hn1
      have hgx : gs[n]? = some gs[n] := List.getElem?_eq_getElem (by omega)
      generalize ss[n] = x at hx
      generalize gs[n] = g at hgx
      have hxl := (hrows n x hx).1
      obtain ⟨q1, _, _⟩ := hg.grown n g x hgx hx
      have q2 := (hg.row n x hx).1
      have hq1 := q1.length
      simp only [List.length_replicate] at hq1
      have arow : ∀ {K : Sl → Prop}, K g → idxA all.ptr all.len (n : Int) 1 fun b o => ldL h3 b o K := fun hK => Row.idx hg.own.row rfl (v := slV g) (by simp [hgx]) fun _ _ _ hc => ⟨g, hc, hK⟩
      refine loopM_intro (fun s h4 => h4 = h3 ∧ ∃ m : Nat, s.1 = (m : Int) ∧ m ≤ g.len) (fun s _ => g.len - s.1.toNat) ⟨rfl, 0, rfl, Nat.zero_le _⟩ ?_
      rintro ⟨i, u⟩ h4 ⟨rfl, m, hi, hml⟩
      dsimp only at hi
      subst hi
      dsimp only
      refine arow (iteP_dec (fun hm => ?_) (fun hm => bindI_intro ?_))
      · refine arow (Ints.idx q1 (x := vv n) rfl (by rw [List.getElem?_replicate, if_pos (by omega)]) ?_)
        rw [vv_val]
        refine iteP_neg (by simp) (bindI_intro ?_)
        rw [wrap64 (n := (m : Int) + 1) (by omega) (by omega)]
        exact ⟨⟨rfl, m + 1, by omega, by omega⟩, by omega⟩
      · refine loopM_intro (fun s h5 => h5 = h4 ∧ ∃ m : Nat, s.1 = (m : Int) ∧ m ≤ x.len) (fun s _ => x.len - s.1.toNat) ⟨rfl, 0, rfl, Nat.zero_le _⟩ ?_
        rintro ⟨i, u⟩ h5 ⟨rfl, m2, hi, hml2⟩
        dsimp only at hi
        subst hi
        dsimp only
        refine book_row hB hx (iteP_dec (fun hm2 => ?_) (fun hm2 => bindI_intro ?_))
        · refine book_row hB hx (Ints.idx q2 (x := vv n) rfl (by rw [List.getElem?_replicate, if_pos (by omega)]) ?_)
          rw [vv_val]
          refine iteP_neg (by simp) (bindI_intro ?_)
          rw [wrap64 (n := (m2 : Int) + 1) (by omega) (by omega)]
          exact ⟨⟨rfl, m2 + 1, by omega, by omega⟩, by omega⟩
        · rw [wrap64 (n := (n : Int) + 1) (by omega) (by omega)]
          exact ⟨⟨rfl, n + 1, by omega, by omega⟩, by omega⟩

end Go.Proofs.Ytkcbkiognkkhlaa
