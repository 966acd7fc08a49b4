/- The reference's Fork. -/
import Derived.Test.YtcmedplogmjiiaaGreatClO
namespace Go.Proofs.YtcmedplogmjiiaaGreat
open Go Go.Fw

theorem mk_ref2 {h : Heap} {cb rb : Nat} {sl so st sb : Sl} {c : Cl} (hc : h[cb]? = some (.cells (rfC rb sl so st c) 60 (0, 0))) (hr : h[rb]? = some (.cells #[slV sb, .bool c.broken] 91 (0, 0))) (hl : Own h 0 sl 2 (c.waits.flatMap wC))
    (ho : Own h 0 so 1 (c.out.map bv)) (ht : Own h 0 st 7 (c.told.flatMap tC)) (hb : Own h 0 sb 1 (c.rb.map bv)) (n1 : cb ≠ rb)
    (d0 : ∀ k, sl.blk = some k → k ≠ cb ∧ k ≠ rb) (d1 : ∀ k, so.blk = some k → (k ≠ cb ∧ k ≠ rb) ∧ sl.blk ≠ some k) (d2 : ∀ k, st.blk = some k → (k ≠ cb ∧ k ≠ rb) ∧ sl.blk ≠ some k ∧ so.blk ≠ some k) (d3 : ∀ k, sb.blk = some k → (k ≠ cb ∧ k ≠ rb) ∧ sl.blk ≠ some k ∧ so.blk ≠ some k ∧ st.blk ≠ some k) {base : Nat}
    (l1 : base ≤ cb) (l2 : base ≤ rb) (l3 : ∀ k, sl.blk = some k → base ≤ k) (l4 : ∀ k, so.blk = some k → base ≤ k) (l5 : ∀ k, st.blk = some k → base ≤ k) (l6 : ∀ k, sb.blk = some k → base ≤ k) : ∃ T, RefC h T cb c ∧ ∀ k, T k ≠ none → base ≤ k := by
  have b1 := blk_lt hc
  have b2 := blk_lt hr
  have main : ∀ k, (if k = cb then some 0 else if k = rb then some 1 else if sl.blk = some k then some 2 else if so.blk = some k then some 3 else if st.blk = some k then some 4 else if sb.blk = some k then some 5 else none : Option Nat) ≠ none → base ≤ k ∧ k < h.size := fun k hk => by
    by_cases q1 : k = cb
    · omega
    · by_cases q2 : k = rb
      · omega
      · by_cases q3 : sl.blk = some k
        · exact ⟨l3 k q3, (hl.lt q3).2⟩
        · by_cases q4 : so.blk = some k
          · exact ⟨l4 k q4, (ho.lt q4).2⟩
          · by_cases q5 : st.blk = some k
            · exact ⟨l5 k q5, (ht.lt q5).2⟩
            · by_cases q6 : sb.blk = some k
              · exact ⟨l6 k q6, (hb.lt q6).2⟩
              · simp only [q1, q2, q3, q4, q5, q6, if_false] at hk; exact absurd rfl hk
  refine ⟨fun k => if k = cb then some 0 else if k = rb then some 1 else if sl.blk = some k then some 2 else if so.blk = some k then some 3 else if st.blk = some k then some 4 else if sb.blk = some k then some 5 else none, ⟨rb, sl, so, st, sb, ⟨hc, hr, hl, ho, ht, hb.row, by simp, ?_, fun k hk => ?_, fun k hk => ?_, fun k hk => ?_, fun k hk => ?_, fun k hk => (main k hk).2⟩⟩, fun k hk => (main k hk).1⟩
  · show (if _ then _ else _) = _
    rw [if_neg (fun e => n1 e.symm), if_pos rfl]
  · have := d0 k hk
    show (if _ then _ else _) = _
    rw [if_neg this.1, if_neg this.2, if_pos hk]
  · have := d1 k hk
    show (if _ then _ else _) = _
    rw [if_neg this.1.1, if_neg this.1.2, if_neg this.2, if_pos hk]
  · have := d2 k hk
    show (if _ then _ else _) = _
    rw [if_neg this.1.1, if_neg this.1.2, if_neg this.2.1, if_neg this.2.2, if_pos hk]
  · have := d3 k hk
    show (if _ then _ else _) = _
    rw [if_neg this.1.1, if_neg this.1.2, if_neg this.2.1, if_neg this.2.2.1, if_neg this.2.2.2, if_pos hk]

theorem RdFork_spec {h : Heap} {rb : Nat} {sb : Sl} {l : List UInt8} {br : Bool} (hr : h[rb]? = some (.cells #[slV sb, .bool br] 91 (0, 0))) (hb : Bytes h sb l) (hl : l.length ≤ 1099511627776) {K : Option Addr → Heap → Prop}
    (hk : ∀ h' rb' sb', h'[rb']? = some (.cells #[slV sb', .bool br] 91 (0, 0)) → Own h' h.size sb' 1 (l.map bv) → h.size ≤ rb' → sb'.blk ≠ some rb' → Ext h h' → K (some ⟨rb', 0, none⟩) h') : m_spillwayref18_Reader_Fork (some ⟨rb, 0, none⟩) K h := by
  unfold m_spillwayref18_Reader_Fork g_spillwayref18_Reader_Fork
  have hlen := Bytes.length hb
  refine iteP_false (deref_ (deref_ (ldLk (s := sb) hr rfl (ldBk hr rfl (newC_intro ?_)))))
  have e1 := Ext.push h (.cells (([] : List Value).toArray) 5)
  have r1 := keepE hr e1
  refine ⟨⟨(cell_block r1).trans rfl, trivial⟩, ⟨(cell_block r1).trans rfl, trivial⟩, (Row.ext hb e1).rd ?_⟩
  have ho := Own.newC (h := h) (cells := []) (t := 5) (size := 1) (n := 0) rfl (by decide)
  refine Own.app ho (by simp [hlen]) (bv_one l) rfl (by dsimp only; omega) (by dsimp only; omega) (by simp) fun t h2 ho2 hl2 hu2 hblk2 => ?_
  have e2 : Ext h h2 := e1.then hu2 fun k hk => (ho.lt hk).1
  have r2 := keepE hr e2
  refine ⟨⟨(cell_block r2).trans rfl, trivial⟩, newK fun h9 c9 e9 z9 => ⟨⟨(cell_block (keepE r2 e9)).trans rfl, trivial⟩, ?_⟩⟩
  rw [List.nil_append] at ho2
  exact hk h9 h2.size t c9 (ho2.congr fun k _ hl _ => e9.old k hl) e2.size (fun h9 => by have := (ho2.lt h9).2; omega) (e2.trans e9)

theorem fork_fin {h h18 h24 h25 h31 h33 h39 h41 h46 h47 : Heap} {sl' so' st' sb' : Sl} {rb' : Nat} {c : Cl} (s18 : h18.size = h.size + 1) (z24 : h18.size ≤ h24.size) (u25 : Upd (· = h.size) h24 h25) (z25 : h25.size = h24.size) (e31 : Ext h25 h31) (u33 : Upd (· = h.size) h31 h33) (z33 : h33.size = h31.size) (e39 : Ext h33 h39) (u41 : Upd (· = h.size) h39 h41) (z41 : h41.size = h39.size)
    (e46 : Ext h41 h46) (u47 : Upd (· = h.size) h46 h47) (ho24 : Own h24 h18.size sl' 2 (c.waits.flatMap wC)) (ho31 : Own h31 h25.size so' 1 (c.out.map bv)) (ho39 : Own h39 h33.size st' 7 (c.told.flatMap tC)) (ho46 : Own h46 h41.size sb' 1 (c.rb.map bv)) (r46 : h46[rb']? = some (.cells #[slV sb', .bool c.broken] 91 (0, 0)))
    (hrb : h41.size ≤ rb') (hsr : sb'.blk ≠ some rb') (c47 : h47[h.size]? = some (.cells (rfC rb' sl' so' st' c) 60 (0, 0))) : ∃ T, RefC h47 T h.size c ∧ ∀ k, T k ≠ none → h.size ≤ k := by
  have z31 := e31.size
  have z39 := e39.size
  have z46 := e46.size
  have lrb := blk_lt r46
  have k46 : ∀ {k : Nat}, k < h46.size → k ≠ h.size → h47[k]? = h46[k]? := fun {k} hk hne => u47.old k hk hne
  have k39 : ∀ {k : Nat}, k < h39.size → k ≠ h.size → h47[k]? = h39[k]? := fun {k} hk hne => (k46 (by omega) hne).trans ((e46.old k (by omega)).trans (u41.old k hk hne))
  have k31 : ∀ {k : Nat}, k < h31.size → k ≠ h.size → h47[k]? = h31[k]? := fun {k} hk hne => (k39 (by omega) hne).trans ((e39.old k (by omega)).trans (u33.old k hk hne))
  have k24 : ∀ {k : Nat}, k < h24.size → k ≠ h.size → h47[k]? = h24[k]? := fun {k} hk hne => (k31 (by omega) hne).trans ((e31.old k (by omega)).trans (u25.old k hk hne))
  have lsl : ∀ k, sl'.blk = some k → h18.size ≤ k ∧ k < h24.size := fun k hk => ho24.lt hk
  have lso : ∀ k, so'.blk = some k → h25.size ≤ k ∧ k < h31.size := fun k hk => ho31.lt hk
  have lst : ∀ k, st'.blk = some k → h33.size ≤ k ∧ k < h39.size := fun k hk => ho39.lt hk
  have lsb : ∀ k, sb'.blk = some k → h41.size ≤ k ∧ k < h46.size := fun k hk => ho46.lt hk
  exact mk_ref2 (h := h47) (cb := h.size) (rb := rb') (sl := sl') (so := so') (st := st') (sb := sb') (c := c) (base := h.size)
    c47 ((k46 lrb (by omega)).trans r46)
    ((ho24.congr fun k hk hl _ => k24 hl (by have := lsl k hk; omega)).base (Nat.zero_le _)) ((ho31.congr fun k hk hl _ => k31 hl (by have := lso k hk; omega)).base (Nat.zero_le _))
    ((ho39.congr fun k hk hl _ => k39 hl (by have := lst k hk; omega)).base (Nat.zero_le _)) ((ho46.congr fun k hk hl _ => k46 hl (by have := lsb k hk; omega)).base (Nat.zero_le _)) (by omega)
    (fun k hk => by have := lsl k hk; omega) (fun k hk => ⟨by have := lso k hk; omega, fun h9 => by have := lso k hk; have := lsl k h9; omega⟩)
    (fun k hk => ⟨by have := lst k hk; omega, fun h9 => by have := lst k hk; have := lsl k h9; omega, fun h9 => by have := lst k hk; have := lso k h9; omega⟩)
    (fun k hk => ⟨⟨by have := lsb k hk; omega, fun h9 => hsr (by rw [hk, h9])⟩, fun h9 => by have := lsb k hk; have := lsl k h9; omega, fun h9 => by have := lsb k hk; have := lso k h9; omega, fun h9 => by have := lsb k hk; have := lst k h9; omega⟩)
    (Nat.le_refl _) (by omega) (fun k hk => by have := lsl k hk; omega) (fun k hk => by have := lso k hk; omega) (fun k hk => by have := lst k hk; omega) (fun k hk => by have := lsb k hk; omega)

theorem RCFork_spec {h : Heap} {T : Nat → Option Nat} {cb : Nat} {c : Cl} (hC : RefC h T cb c) (h1 : c.out.length ≤ 1099511627776) (h2 : c.told.length ≤ 1099511627776) (h3 : c.rb.length ≤ 1099511627776) (h4 : c.waits.length ≤ 1099511627776) {K : Option Addr → Heap → Prop}
    (hk : ∀ h' T' cb', RefC h' T' cb' c → Ext h h' → (∀ k, T' k ≠ none → h.size ≤ k) → K (some ⟨cb', 0, none⟩) h') : m_spillwayref21_Client_Fork (some ⟨cb, 0, none⟩) K h := by
  obtain ⟨rb, sl, so, st, sb, hR⟩ := hC
  unfold m_spillwayref21_Client_Fork g_spillwayref21_Client_Fork
  have q := hR.cells
  have lcb := blk_lt q
  have hwl := wlen hR.l
  have htl := tlen hR.told
  have hol : so.len = c.out.length := Bytes.length hR.out.row
  refine iteP_false (deref_ (ldIk q rfl (ldIk q rfl (ldIk q rfl (ldSk q rfl (ldBk q rfl (ldLk (s := sl) q rfl (ldIk q rfl (ldLk (s := so) q rfl (ldLk (s := st) q rfl (ldIk q rfl (ldIk q rfl (ldPk q rfl (ldIk q rfl (newK fun h14 c14 e14 z14 => stsAll c14 rfl rfl fun h15 c15 u15 z15 => ?_)))))))))))))))
  refine put2 c15 (show 0 + 5 < 13 by decide) rfl fun h16 c16 u16 z16 => put2 c16 (show 0 + 7 < 13 by decide) rfl fun h17 c17 u17 z17 => put2 c17 (show 0 + 8 < 13 by decide) rfl fun h18 q18 u18 z18 => deref_ ?_
  have c18 : h18[h.size]? = some (.cells (rfC rb ⟨none, 0, 0⟩ ⟨none, 0, 0⟩ ⟨none, 0, 0⟩ c) 60 (0, 0)) := by rw [q18]; rfl
  refine ldLk (s := ⟨none, 0, 0⟩) c18 rfl ?_
  have u18' : Upd (· = h.size) h14 h18 := ((u15.trans u16).trans u17).trans u18
  have e18 : Ext h h18 := e14.then u18' fun k hk => by omega
  have hR18 := hR.ext e18
  have s18 : h18.size = h.size + 1 := by omega
  refine ldLk (s := sl) hR18.cells rfl (hR18.l.row.rd (Own.app (Own.nil h18 h18.size 2) (by rw [flat_len wC_len, hwl]) (wC_one _) rfl (by dsimp only; omega) (by dsimp only; omega) (Nat.le_refl _) fun sl' h24 ho24 hl24 hu24 hb24 => ?_))
  rw [List.nil_append] at ho24
  have e24 : Ext h18 h24 := hu24.ext fun k hk h9 => by simp [Sl.blk] at h9
  have z24 := e24.size
  refine put2 (keepE c18 e24) (show 0 + 5 < 13 by decide) rfl fun h25 q25 u25 z25 => deref_ ?_
  have c25 : h25[h.size]? = some (.cells (rfC rb sl' ⟨none, 0, 0⟩ ⟨none, 0, 0⟩ c) 60 (0, 0)) := by rw [q25]; rfl
  refine ldLk (s := ⟨none, 0, 0⟩) c25 rfl ?_
  have e25 : Ext h h25 := (e18.trans e24).then u25 fun k hk => by omega
  have hR25 := hR.ext e25
  refine ldLk (s := so) hR25.cells rfl (hR25.out.row.rd (Own.app (Own.nil h25 h25.size 1) (by simp [hol]) (bv_one _) rfl (by dsimp only; omega) (by dsimp only; omega) (Nat.le_refl _) fun so' h31 ho31 hl31 hu31 hb31 => ?_))
  rw [List.nil_append] at ho31
  have e31 : Ext h25 h31 := hu31.ext fun k hk h9 => by simp [Sl.blk] at h9
  have z31 := e31.size
  refine put2 (keepE c25 e31) (show 0 + 7 < 13 by decide) rfl fun h33 q33 u33 z33 => deref_ ?_
  have c33 : h33[h.size]? = some (.cells (rfC rb sl' so' ⟨none, 0, 0⟩ c) 60 (0, 0)) := by rw [q33]; rfl
  refine ldLk (s := ⟨none, 0, 0⟩) c33 rfl ?_
  have e33 : Ext h h33 := (e25.trans e31).then u33 fun k hk => by omega
  have hR33 := hR.ext e33
  refine ldLk (s := st) hR33.cells rfl (hR33.told.row.rd (Own.app (Own.nil h33 h33.size 7) (by rw [flat_len tC_len, htl]) (tC_one _) rfl (by dsimp only; omega) (by dsimp only; omega) (Nat.le_refl _) fun st' h39 ho39 hl39 hu39 hb39 => ?_))
  rw [List.nil_append] at ho39
  have e39 : Ext h33 h39 := hu39.ext fun k hk h9 => by simp [Sl.blk] at h9
  have z39 := e39.size
  refine put2 (keepE c33 e39) (show 0 + 8 < 13 by decide) rfl fun h41 q41 u41 z41 => deref_ ?_
  have c41 : h41[h.size]? = some (.cells (rfC rb sl' so' st' c) 60 (0, 0)) := by rw [q41]; rfl
  have e41 : Ext h h41 := (e33.trans e39).then u41 fun k hk => by omega
  have hR41 := hR.ext e41
  refine ldPk hR41.cells rfl (RdFork_spec hR41.rcell hR41.rbs h3 fun h46 rb' sb' r46 ho46 hrb hsr e46 => ?_)
  refine put2 (keepE c41 e46) (show 0 + 11 < 13 by decide) rfl fun h47 c47 u47 z47 => ?_
  have e47 : Ext h h47 := (e41.trans e46).then u47 fun k hk => by omega
  obtain ⟨T', hC', hT'⟩ := fork_fin (h := h) (c := c) s18 z24 u25 z25 e31 u33 z33 e39 u41 z41 e46 u47 ho24 ho31 ho39 ho46 r46 hrb hsr (by rw [c47]; rfl)
  exact hk h47 T' h.size hC' e47 hT'

end Go.Proofs.YtcmedplogmjiiaaGreat
