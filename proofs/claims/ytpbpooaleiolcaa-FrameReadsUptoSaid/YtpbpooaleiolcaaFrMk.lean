/- FrameMakes' law, on its model. -/
import Derived.Test.YtpbpooaleiolcaaFrAb
namespace Go.Proofs.Ytpbpooaleiolcaa
open Go Go.Fw

theorem Alone_spec {bk base : Nat} {s0 : Sl} {ss : List Sl} {h : Heap} {K : Bool → Heap → Prop} (hb : BookR h bk base s0 ss) (hbase : base ≤ h.size) (hn : ss.length ≤ 1099511627776)
    (hrows : ∀ (j : Nat) (x : Sl), ss[j]? = some x → x.len ≤ 1099511627776 ∧ ∃ l : List UInt8, Own h 0 x 1 (l.map bv))
    (hd : ∀ (i j : Nat) (x y : Sl) (k : Nat), ss[i]? = some x → ss[j]? = some y → x.blk = some k → y.blk = some k → i = j)
    (hk : ∀ h', Upd (fun k => k = bk ∨ inRows ss k) h h' → K true h') : m_spillwaymem_Book_Alone (some ⟨bk, 0, none⟩) K h := by
  unfold m_spillwaymem_Book_Alone g_spillwaymem_Book_Alone
  refine aloneBytes_spec hb hbase hn hrows hd fun h1 hu => iteP_true ?_
  have hB := hb.upd hbase hu
  refine aloneTexts_spec hB.cells rfl (iteP_true ?_)
  refine aloneInts_spec hB.cells rfl (iteP_true ?_)
  refine aloneCounts_spec hB.cells rfl (iteP_true ?_)
  refine aloneItems_spec hB.cells rfl (iteP_true ?_)
  refine aloneFlows_spec hB.cells rfl (iteP_true ?_)
  refine aloneBreaks_spec hB.cells rfl (iteP_true ?_)
  refine aloneSystems_spec hB.cells rfl (bindB_intro ?_)
  refine deref_some ⟨free_block hB.cells (by simp), rfl, bindB_intro ?_⟩
  exact hk _ ((hu.mono fun k _ hk => .inr hk).trans ((Upd.puts h1 bk 0 _).mono fun k _ hk => .inl hk))

theorem BookR.ext {bk base : Nat} {s0 : Sl} {ss : List Sl} {h h' : Heap} (hb : BookR h bk base s0 ss) (hbase : base ≤ h.size) (he : Ext h h') : BookR h' bk base s0 ss := hb.upd hbase (he.upd _)

theorem OwnRows.parts {h : Heap} {base : Nat} {s : Sl} {ll : List (List UInt8)} (ho : OwnRows h base s ll) :
    ∃ us : List Sl, Row h s 1 (us.map slV) ∧ (∀ k, s.blk = some k → base ≤ k ∧ k < h.size) ∧ us.length = ll.length ∧ (∀ (j : Nat) (x : Sl), us[j]? = some x → ∃ l, l ∈ ll ∧ Own h base x 1 (l.map bv)) ∧
      (∀ (i j : Nat) (x y : Sl) (k : Nat), us[i]? = some x → us[j]? = some y → x.blk = some k → y.blk = some k → i = j) := by
  obtain ⟨ss, h1, h2, h3, _, h5⟩ := ho.rows
  refine ⟨ss, h1.row, fun k hk => h1.lt hk, h2, fun j x hx => ?_, h5⟩
  have hj : j < ll.length := by
    rcases Nat.lt_or_ge j ss.length with h9 | h9
    · omega
    · rw [List.getElem?_eq_none h9] at hx; cases hx
  exact ⟨ll[j], List.getElem_mem hj, h3 j x _ hx (List.getElem?_eq_getElem hj)⟩

theorem splitA_len : ∀ (n : Nat) (all : List UInt8), all.length ≤ n → (splitA all).1.length ≤ all.length ∧ ∀ l ∈ (splitA all).1, l.length ≤ 4096
  | n, all, hn => by
    by_cases h0 : all.length = 0
    · rw [splitA_nil h0]; simp
    · cases h2 : lenok all with
      | false => rw [splitA_bad h0 h2]; simp
      | true =>
        by_cases h3 : all.length < 4 ∨ all.length - 4 < lenv all
        · rw [splitA_end h0 h2 h3]; simp
        · have hp := lenok_pos (by omega) h2
          rw [splitA_one h0 h2 h3]
          cases n with
          | zero => omega
          | succ n =>
            obtain ⟨g1, g2⟩ := splitA_len n (all.drop (4 + lenv all)) (by simp; omega)
            simp at g1
            refine ⟨by simp; omega, fun l hl => ?_⟩
            rcases List.mem_cons.1 hl with rfl | hl
            · simp; omega
            · exact g2 l hl

theorem idx_lt {α : Type} {l : List α} {i : Nat} {x : α} (h : l[i]? = some x) : i < l.length := by
  rcases Nat.lt_or_ge i l.length with h9 | h9
  · exact h9
  · rw [List.getElem?_eq_none h9] at h; cases h

theorem apart_append {A B : List Sl} (c : Nat) (hA : ∀ x ∈ A, ∀ k, x.blk = some k → k < c) (hB : ∀ x ∈ B, ∀ k, x.blk = some k → c ≤ k)
    (dA : ∀ (i j : Nat) (x y : Sl) (k : Nat), A[i]? = some x → A[j]? = some y → x.blk = some k → y.blk = some k → i = j)
    (dB : ∀ (i j : Nat) (x y : Sl) (k : Nat), B[i]? = some x → B[j]? = some y → x.blk = some k → y.blk = some k → i = j) :
    ∀ (i j : Nat) (x y : Sl) (k : Nat), (A ++ B)[i]? = some x → (A ++ B)[j]? = some y → x.blk = some k → y.blk = some k → i = j := by
  intro i j x y k hx hy hk hk'
  rcases Nat.lt_or_ge i A.length with hi | hi
  · rw [List.getElem?_append_left hi] at hx
    have h1 := hA x (List.mem_of_getElem? hx) k hk
    rcases Nat.lt_or_ge j A.length with hj | hj
    · rw [List.getElem?_append_left hj] at hy
      exact dA i j x y k hx hy hk hk'
    · rw [List.getElem?_append_right hj] at hy
      have h2 := hB y (List.mem_of_getElem? hy) k hk'
      omega
  · rw [List.getElem?_append_right hi] at hx
    have h1 := hB x (List.mem_of_getElem? hx) k hk
    rcases Nat.lt_or_ge j A.length with hj | hj
    · rw [List.getElem?_append_left hj] at hy
      have h2 := hA y (List.mem_of_getElem? hy) k hk'
      omega
    · rw [List.getElem?_append_right hj] at hy
      have := dB _ _ x y k hx hy hk hk'
      omega

theorem FrameMakes_true {l b : Sl} {ll : List (List UInt8)} {lb : List UInt8} {h : Heap} {K : Bool → Heap → Prop} (hl : RowsB h l ll) (hb : Bytes h b lb) (hlt : total ll ≤ 1048576) (hbt : lb.length ≤ 1048576) (hk : ∀ h', Ext h h' → K true h') : m_spillwaylaw18_FrameMakes l b K h := by
  unfold m_spillwaylaw18_FrameMakes g_spillwaylaw18_FrameMakes
  have hll := hl.len
  have hcnt := total_count ll
  refine bindI_intro (loopM_intro (fun s h' => ∃ is : List Sl, s.2.1 = (is.length : Int) ∧ is.length ≤ ll.length ∧ Ext h h' ∧ Own h' h.size s.1 1 (is.map slV) ∧
    ∀ (j : Nat) (y : Sl) (m : List UInt8), is[j]? = some y → ll[j]? = some m → Handed h' h.size y m ∧ ∀ k, y.blk = some k → s.1.blk ≠ some k) (fun s _ => ll.length - s.2.1.toNat)
    ⟨[], rfl, Nat.zero_le _, Ext.refl h, Own.nil h _ 1, by simp⟩ ?_)
  rintro ⟨in_, i, u⟩ h1 ⟨is, hi, hisl, hext1, hin, his⟩
  dsimp only at hi hin his
  subst hi
  dsimp only
  have hinl := hin.len
  simp only [List.length_map, Nat.mul_one] at hinl
  refine iteP_dec (fun hlt1 => ?_) (fun hge1 => ?_)
  · have hk1 : is.length < ll.length := by omega
    have hx : ll[is.length]? = some ll[is.length] := List.getElem?_eq_getElem hk1
    have hxt := mem_le_total hx
    generalize ll[is.length] = m at hx hxt
    refine RowsB.idx (hl.ext hext1) rfl hx fun x hxb => ?_
    refine Hand_spec hxb (by omega) fun t h2 ht hext2 => newC_intro ?_
    have hext := Ext.push h2 (.cells [slV t].toArray 29)
    have hrow : Row (h2.push (.cells [slV t].toArray 29)) ⟨some ⟨h2.size, 0, none⟩, 1, 1⟩ 1 [slV t] := (Own.newC (h := h2) (cells := [slV t]) (t := 29) (size := 1) (n := 1) rfl (by decide)).row
    refine hrow.rd ?_
    have hext23 := hext2.trans hext
    have hs23 := hext23.size
    have hs1 := hext1.size
    have hin3 := hin.congr (h' := h2.push (.cells [slV t].toArray 29)) fun k _ hl _ => hext23.old k hl
    refine Own.app2 hin3 (by simp) rfl rfl (by omega) (by omega) (by simp only [Array.size_push] at hs23 ⊢; omega) fun in' h4 ho4 hl4 hu4 hblk4 => bindI_intro ?_
    rw [wrap64 (n := (is.length : Int) + 1) (by omega) (by omega)]
    have hs4 := hu4.size
    have hnew : ∀ k, k < (h2.push (.cells [slV t].toArray 29)).size → in_.blk ≠ some k → in'.blk ≠ some k := fun k hk hak => by
      rcases hblk4 with e | ⟨e, _⟩
      · rw [e]; exact hak
      · rw [e]; intro he; simp only [Array.size_push, Option.some.injEq] at he hk; omega
    refine ⟨⟨is ++ [t], by simp, by simp; omega, (hext1.trans hext23).then hu4 fun k hk => (hin3.lt hk).1, by rw [List.map_append]; exact ho4, fun j y q hy hq => ?_⟩, by simp; omega⟩
    have key : Handed (h2.push (.cells [slV t].toArray 29)) h.size y q ∧ ∀ k, y.blk = some k → in_.blk ≠ some k := by
      rcases Nat.lt_or_ge j is.length with hj | hj
      · rw [List.getElem?_append_left hj] at hy
        obtain ⟨g1, g2⟩ := his j y q hy hq
        exact ⟨g1.ext hext23, g2⟩
      · have hj' : j = is.length := by
          have := idx_lt hy; simp at this; omega
        subst hj'
        rw [List.getElem?_append_right (Nat.le_refl _)] at hy
        simp at hy
        subst hy
        rw [hx] at hq
        cases hq
        refine ⟨(ht.base hs1).ext hext, fun k hk he => ?_⟩
        have := (ht.lt hk).1
        have := (hin.lt he).2
        omega
    exact ⟨key.1.congr fun k hk hl => hu4.old k hl (key.2 k hk), fun k hk => hnew k (key.1.lt hk).2 (key.2 k hk)⟩
  have hisl' : is.length = ll.length := by omega
  refine Hand_spec (hb.ext hext1) (by omega) fun disk h2 hdisk hext2 => ?_
  have inB : ∀ h', Ext h1 h' → RowsB h' in_ ll := fun h' he => ⟨is, hin.row.ext he, hisl', fun j y q hy hq => ((his j y q hy hq).1.ext he).bytes⟩
  refine FramesE_spec (inB h2 hext2) hlt fun x h3 hx hext3 => bindI_intro ?_
  have e03 := (hext1.trans hext2).trans hext3
  refine RFrames_spec (hl.ext e03) hlt fun y h4 hy hext4 => bindI_intro ?_
  have e34 := hext3.trans hext4
  refine Split_spec (hdisk.ext e34).bytes (by omega) fun uu h5 hu hext5 => bindI_intro (bindI_intro ?_)
  have e05 := (e03.trans hext4).trans hext5
  refine RSplit_spec (hb.ext e05) (by omega) fun v h6 hv hext6 => bindI_intro (bindI_intro ?_)
  refine live_spec fun h7 hext7 => iteP_false ?_
  have e57 := hext6.trans hext7
  have e47 := hext5.trans e57
  have e37 := hext4.trans e47
  have e27 := hext3.trans e37
  have e17 := hext2.trans e27
  have e07 := hext1.trans e17
  refine Same_spec (hx.row.ext e37) (hy.row.ext e47) ?_
  rw [decide_eq_true rfl]
  refine iteP_false (iteP_neg (by simp) ?_)
  have sl := splitA_len _ lb (Nat.le_refl _)
  refine SamePayloads_spec ((OwnRows.rowsB hu).ext e57) (hv.ext hext7) (by omega) ?_
  rw [decide_eq_true rfl]
  refine iteP_false (iteP_neg (by simp) (iteP_neg (by simp) ?_))
  refine Kept_spec (hdisk.ext e27) (hb.ext e07) (by omega) (iteP_false (bindI_intro ?_))
  refine loopM_intro (fun s h' => ∃ k : Nat, s.1 = (k : Int) ∧ k ≤ ll.length ∧ Ext h7 h') (fun s _ => ll.length - s.1.toNat) ⟨0, rfl, Nat.zero_le _, Ext.refl h7⟩ ?_
  rintro ⟨i, u⟩ h8 ⟨k, hi, hkl, hext8⟩
  dsimp only at hi
  subst hi
  dsimp only
  have e18 := e17.trans hext8
  have e08 := e07.trans hext8
  refine iteP_dec (fun hlt1 => ?_) (fun hge2 => newC_intro ?_)
  · have hk1 : k < ll.length := by omega
    have hq : ll[k]? = some ll[k] := List.getElem?_eq_getElem hk1
    have hqt := mem_le_total hq
    generalize ll[k] = q at hq hqt
    have hik : is[k]? = some is[k] := List.getElem?_eq_getElem (by omega)
    generalize is[k] = t at hik
    have ht := (his k t q hik hq).1
    refine Row.idx (hin.row.ext e18) (n := k) rfl (v := slV t) (by simp [hik]) fun bb o _ hc => ⟨t, hc, ?_⟩
    refine Frame_spec (ht.ext e18).bytes fun p h9 hp hext9 _ => bindI_intro ?_
    refine RowsB.idx (hl.ext (e08.trans hext9)) rfl hq fun r hr => ?_
    refine RFrame_spec hr fun p2 h10 hp2 hext10 _ => bindI_intro ?_
    refine ⟨(true, ()), Same_spec (hp.row.ext hext10) hp2.row ⟨by simp, rfl⟩, iteP_false (iteP_neg (by simp) ?_)⟩
    have e810 := hext9.trans hext10
    refine Row.idx (hin.row.ext (e18.trans e810)) (n := k) rfl (v := slV t) (by simp [hik]) fun bb o _ hc => ⟨t, hc, ?_⟩
    refine RowsB.idx (hl.ext (e08.trans e810)) rfl hq fun r2 hr2 => ?_
    refine ⟨(true, ()), Kept_spec (ht.ext (e18.trans e810)) hr2 (by omega) ⟨rfl, rfl⟩, iteP_false (bindI_intro ?_)⟩
    rw [wrap64 (n := (k : Int) + 1) (by omega) (by omega)]
    exact ⟨⟨k + 1, by omega, by omega, hext8.trans e810⟩, by omega⟩
  -- the book
  have z8 := hext8.size
  have z1 := hext1.size
  have z2 := hext2.size
  have z3 := hext3.size
  have z4 := hext4.size
  have z5 := hext5.size
  have z57 := e57.size
  have pext : Ext h8 (h8.push (.cells [nilV, nilV, nilV, nilV, nilV, nilV, nilV, nilV].toArray 47)) := Ext.push h8 _
  have hB0 : BookR (h8.push (.cells [nilV, nilV, nilV, nilV, nilV, nilV, nilV, nilV].toArray 47)) h8.size (h8.size + 1) ⟨none, 0, 0⟩ [] :=
    ⟨push_new, Own.nil _ _ 1, by omega, by simp⟩
  have p0 : (h8.push (.cells [nilV, nilV, nilV, nilV, nilV, nilV, nilV, nilV].toArray 47)).size = h8.size + 1 := by simp
  show m_spillwaymem_Book_TakeBytes (some ⟨h8.size, 0, none⟩) x _ (h8.push (.cells [nilV, nilV, nilV, nilV, nilV, nilV, nilV, nilV].toArray 47))
  generalize (h8.push (.cells [nilV, nilV, nilV, nilV, nilV, nilV, nilV, nilV].toArray 47)) = hp at *
  have nob : ∀ k, Sl.blk ⟨none, 0, 0⟩ ≠ some k := fun k => by simp [Sl.blk]
  refine TakeBytes_spec hB0 (fun k hk => ?_) (by simp) (by omega) fun s1 h9 hB1 hu1 _ => ?_
  · have := (hx.lt hk).2
    exact ⟨by omega, nob k, by omega⟩
  have e89 : Ext h8 h9 := pext.then hu1 fun k hk => by
    rcases hk with hk | hk
    · omega
    · exact absurd hk (nob k)
  have y9 := hu1.size
  obtain ⟨us, hur, hub, hul, huo, hud⟩ := OwnRows.parts hu
  have e58 := e57.trans hext8
  refine TakePayloads_spec hB1 (hur.ext (e58.trans e89)) (fun k hk => ?_) (fun y hy k hk => ?_) (by simp; omega) (by omega) fun s2 h10 hB2 hu2 _ => ?_
  · have := (hub k hk).2
    exact ⟨by omega, fun he => by have := (hB1.own.lt he).1; omega⟩
  · obtain ⟨j, hj, rfl⟩ := List.mem_iff_getElem.1 hy
    obtain ⟨m, _, ho⟩ := huo j _ (List.getElem?_eq_getElem hj)
    have := (ho.lt hk).2
    exact ⟨by omega, fun he => by have := (hB1.own.lt he).1; omega, by omega⟩
  have e810 : Ext h8 h10 := e89.then hu2 fun k hk => by
    rcases hk with hk | hk
    · omega
    · have := (hB1.own.lt hk).1; omega
  have y10 := hu2.size
  have e28 := e27.trans hext8
  refine Split_spec (hdisk.ext (e28.trans e810)).bytes (by omega) fun w h11 hw hext11 => bindI_intro (bindI_intro ?_)
  obtain ⟨ws, hwr, hwb, hwl, hwo, hwd⟩ := OwnRows.parts hw
  have y11 := hext11.size
  have hB3 := hB2.ext (by omega) hext11
  refine TakePayloads_spec hB3 hwr (fun k hk => ?_) (fun y hy k hk => ?_) (by simp; omega) (by omega) fun s3 h12 hB4 hu4 _ => ?_
  · have := (hwb k hk).1
    exact ⟨by omega, fun he => by have := (hB2.own.lt he).2; omega⟩
  · obtain ⟨j, hj, rfl⟩ := List.mem_iff_getElem.1 hy
    obtain ⟨m, _, ho⟩ := hwo j _ (List.getElem?_eq_getElem hj)
    have := ho.lt hk
    exact ⟨by omega, fun he => by have := (hB2.own.lt he).2; omega, by omega⟩
  have e812 : Ext h8 h12 := (e810.trans hext11).then hu4 fun k hk => by
    rcases hk with hk | hk
    · omega
    · have := (hB2.own.lt hk).1; omega
  have y12 := hu4.size
  have hxl := Own.blen hx
  have hfr : (framesB ll).length ≤ 4 * total ll := by
    unfold framesB
    split
    · exact fr_len ll
    · simp
  have lowX : ∀ k, x.blk = some k → h2.size ≤ k ∧ k < h4.size := fun k hk => by have := hx.lt hk; omega
  have lowU : ∀ y ∈ us, ∀ k, y.blk = some k → h4.size ≤ k ∧ k < h5.size := fun y hy k hk => by
    obtain ⟨j, hj, rfl⟩ := List.mem_iff_getElem.1 hy
    obtain ⟨m, _, ho⟩ := huo j _ (List.getElem?_eq_getElem hj)
    exact ho.lt hk
  have lowW : ∀ y ∈ ws, ∀ k, y.blk = some k → h10.size ≤ k ∧ k < h11.size := fun y hy k hk => by
    obtain ⟨j, hj, rfl⟩ := List.mem_iff_getElem.1 hy
    obtain ⟨m, _, ho⟩ := hwo j _ (List.getElem?_eq_getElem hj)
    exact ho.lt hk
  refine Alone_spec hB4 (by omega) (by simp; omega) (fun j y hy => ?_) ?_ fun h13 hu13 => iteP_true ?_
  · have hm := List.mem_of_getElem? hy
    rcases List.mem_append.1 hm with hm | hm
    · rcases List.mem_append.1 hm with hm | hm
      · have : y = x := by simpa using hm
        subst this
        refine ⟨by omega, _, (hx.congr fun k _ hl _ => ((e37.trans hext8).trans e812).old k hl).base (Nat.zero_le _)⟩
      · obtain ⟨j, hj, rfl⟩ := List.mem_iff_getElem.1 hm
        obtain ⟨m, hmm, ho⟩ := huo j _ (List.getElem?_eq_getElem hj)
        have h1 := sl.2 m hmm
        have h2 := Own.blen ho
        exact ⟨by omega, _, (ho.congr fun k _ hl _ => (e58.trans e812).old k hl).base (Nat.zero_le _)⟩
    · obtain ⟨j, hj, rfl⟩ := List.mem_iff_getElem.1 hm
      obtain ⟨m, hmm, ho⟩ := hwo j _ (List.getElem?_eq_getElem hj)
      have h1 := sl.2 m hmm
      have h2 := Own.blen ho
      refine ⟨by omega, _, (ho.congr fun k hks hl hb => hu4.old k hl fun hS => ?_).base (Nat.zero_le _)⟩
      rcases hS with hS | hS
      · omega
      · have := (hB2.own.lt hS).2; omega
  · refine apart_append h10.size ?_ (fun y hy k hk => (lowW y hy k hk).1) (apart_append h4.size ?_ (fun y hy k hk => (lowU y hy k hk).1) ?_ hud) hwd
    · intro y hy k hk
      rcases List.mem_append.1 hy with hy | hy
      · have : y = x := by simpa using hy
        subst this
        have := lowX k hk; omega
      · have := lowU y hy k hk; omega
    · intro y hy k hk
      have : y = x := by simpa using hy
      subst this
      exact (lowX k hk).2
    · intro i j y z k hy hz _ _
      have h1 := idx_lt hy
      have h2 := idx_lt hz
      simp at h1 h2
      omega
  · have e213 : Ext h2 h13 := (e28.trans e812).then hu13 fun k hk => by
      rcases hk with hk | ⟨y, hy, hk⟩
      · omega
      · rcases List.mem_append.1 hy with hy | hy
        · rcases List.mem_append.1 hy with hy | hy
          · have : y = x := by simpa using hy
            subst this
            exact (lowX k hk).1
          · have := lowU y hy k hk; omega
        · have := lowW y hy k hk; omega
    have e013 := (hext1.trans hext2).trans e213
    exact Kept_spec (hdisk.ext e213) (hb.ext e013) (by omega) (bindB_intro (hk _ e013))

end Go.Proofs.Ytpbpooaleiolcaa
