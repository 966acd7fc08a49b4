/- A client's Fork. -/
import Derived.Test.YtcmedplogmjiiaaGreatClC
namespace Go.Proofs.YtcmedplogmjiiaaGreat
open Go Go.Fw

theorem mk_client2 {h : Heap} {cb rb mb : Nat} {so st sb : Sl} {c : Cl} (hc : h[cb]? = some (.cells (clC rb mb so st c) 53 (0, 0))) (hr : h[rb]? = some (.cells #[slV sb, .bool c.broken] 89 (0, 0))) (hm : MapI h mb c.waits)
    (ho : Own h 0 so 1 (c.out.map bv)) (ht : Own h 0 st 7 (c.told.flatMap tC)) (hb : Own h 0 sb 1 (c.rb.map bv)) (n1 : cb ≠ rb) (n2 : cb ≠ mb) (n3 : rb ≠ mb)
    (d1 : ∀ k, so.blk = some k → k ≠ cb ∧ k ≠ rb ∧ k ≠ mb) (d2 : ∀ k, st.blk = some k → (k ≠ cb ∧ k ≠ rb ∧ k ≠ mb) ∧ so.blk ≠ some k) (d3 : ∀ k, sb.blk = some k → (k ≠ cb ∧ k ≠ rb ∧ k ≠ mb) ∧ so.blk ≠ some k ∧ st.blk ≠ some k) {base : Nat}
    (l1 : base ≤ cb) (l2 : base ≤ rb) (l3 : base ≤ mb) (l4 : ∀ k, so.blk = some k → base ≤ k) (l5 : ∀ k, st.blk = some k → base ≤ k) (l6 : ∀ k, sb.blk = some k → base ≤ k) : ∃ T, Client h T cb c ∧ ∀ k, T k ≠ none → base ≤ k := by
  have b1 := blk_lt hc
  have b2 := blk_lt hr
  have b3 := hm.lt
  have main : ∀ k, (if k = cb then some 0 else if k = rb then some 1 else if k = mb then some 2 else if so.blk = some k then some 3 else if st.blk = some k then some 4 else if sb.blk = some k then some 5 else none : Option Nat) ≠ none → base ≤ k ∧ k < h.size := fun k hk => by
    by_cases q1 : k = cb
    · omega
    · by_cases q2 : k = rb
      · omega
      · by_cases q3 : k = mb
        · omega
        · by_cases q4 : so.blk = some k
          · exact ⟨l4 k q4, (ho.lt q4).2⟩
          · by_cases q5 : st.blk = some k
            · exact ⟨l5 k q5, (ht.lt q5).2⟩
            · by_cases q6 : sb.blk = some k
              · exact ⟨l6 k q6, (hb.lt q6).2⟩
              · simp only [q1, q2, q3, q4, q5, q6, if_false] at hk; exact absurd rfl hk
  refine ⟨fun k => if k = cb then some 0 else if k = rb then some 1 else if k = mb then some 2 else if so.blk = some k then some 3 else if st.blk = some k then some 4 else if sb.blk = some k then some 5 else none, ⟨rb, mb, so, st, sb, ⟨hc, hr, hm, ho, ht, hb.row, by simp, ?_, ?_, fun k hk => ?_, fun k hk => ?_, fun k hk => ?_, fun k hk => (main k hk).2⟩⟩, fun k hk => (main k hk).1⟩
  · show (if _ then _ else _) = _
    rw [if_neg (fun e => n1 e.symm), if_pos rfl]
  · show (if _ then _ else _) = _
    rw [if_neg (fun e => n2 e.symm), if_neg (fun e => n3 e.symm), if_pos rfl]
  · have := d1 k hk
    show (if _ then _ else _) = _
    rw [if_neg this.1, if_neg this.2.1, if_neg this.2.2, if_pos hk]
  · have := d2 k hk
    show (if _ then _ else _) = _
    rw [if_neg this.1.1, if_neg this.1.2.1, if_neg this.1.2.2, if_neg this.2, if_pos hk]
  · have := d3 k hk
    show (if _ then _ else _) = _
    rw [if_neg this.1.1, if_neg this.1.2.1, if_neg this.1.2.2, if_neg this.2.1, if_neg this.2.2, if_pos hk]

theorem MClone_spec' {h : Heap} {mb : Nat} {l : List (Int × Int)} (hp : MapI h mb l) {K : Option Nat → Heap → Prop} (hk : ∀ h', MapI h' h.size l → Ext h h' → h'.size = h.size + 1 → K (some h.size) h') : m_maps_Clone_map_int_int_int_int_ (some mb) K h := by
  unfold m_maps_Clone_map_int_int_int_int_ g_maps_Clone_map_int_int_int_int_
  obtain ⟨es, c, hb, hks⟩ := hp
  exact iteP_false ⟨50, mb, es, c, rfl, hb, _, rfl, _, rfl, hk _ ⟨es, c, push_new, hks⟩ (Ext.push _ _) (by simp)⟩

theorem bv_one (l : List UInt8) : (l.map bv).all oneCell = true := by simp [List.all_map, Function.comp_def, bv, oneCell]

theorem BClone_spec' {h : Heap} {s : Sl} {l : List UInt8} (hb : Bytes h s l) (hl : l.length ≤ 1099511627776) {K : Sl → Heap → Prop} (hk : ∀ t h', Own h' h.size t 1 (l.map bv) → Ext h h' → K t h') : m_bytes_Clone s K h := by
  have hlen := Bytes.length hb
  exact cloneG hb (bv_one l) rfl (by omega) (by omega) hk
theorem SClone_spec' {h : Heap} {s : Sl} {l : List UInt8} (hb : Bytes h s l) (hl : l.length ≤ 1099511627776) {K : Sl → Heap → Prop} (hk : ∀ t h', Own h' h.size t 1 (l.map bv) → Ext h h' → K t h') : m_slices_Clone_byte_byte_ s K h := by
  have hlen := Bytes.length hb
  exact cloneG hb (bv_one l) rfl (by omega) (by omega) hk
theorem TClone_spec' {h : Heap} {s : Sl} {l : List Tld} (hb : Row h s 7 (l.flatMap tC)) (hl : l.length ≤ 1099511627776) {K : Sl → Heap → Prop} (hk : ∀ t h', Own h' h.size t 7 (l.flatMap tC) → Ext h h' → K t h') : m_slices_Clone_client_Told_client_Told_ s K h := by
  have hlen := hb.len
  rw [flat_len tC_len] at hlen
  exact cloneG hb (tC_one l) rfl (by omega) (by omega) hk
theorem RFork_spec' {h : Heap} {rb : Nat} {sb : Sl} {l : List UInt8} {br : Bool} (hr : h[rb]? = some (.cells #[slV sb, .bool br] 89 (0, 0))) (hb : Bytes h sb l) (hl : l.length ≤ 1099511627776) {K : Option Addr → Heap → Prop}
    (hk : ∀ h' rb' sb', h'[rb']? = some (.cells #[slV sb', .bool br] 89 (0, 0)) → Own h' h.size sb' 1 (l.map bv) → h.size ≤ rb' → sb'.blk ≠ some rb' → Ext h h' → K (some ⟨rb', 0, none⟩) h') : m_frame_Reader_Fork (some ⟨rb, 0, none⟩) K h := by
  unfold m_frame_Reader_Fork g_frame_Reader_Fork
  have hlen := Bytes.length hb
  refine iteP_false (deref_ (deref_ (ldLk (s := sb) hr rfl (ldBk hr rfl ?_))))
  refine BClone_spec' hb hl fun t h5 ho5 e5 => ?_
  refine ⟨⟨(cell_block (keepE hr e5)).trans rfl, trivial⟩, newK fun h7 c7 e7 z7 => ⟨⟨(cell_block (keepE (keepE hr e5) e7)).trans rfl, trivial⟩, ?_⟩⟩
  exact hk h7 h5.size t c7 (ho5.congr fun k _ hl _ => e7.old k hl) e5.size (fun h9 => by have := (ho5.lt h9).2; omega) (e5.trans e7)

theorem Fork_spec {h : Heap} {T : Nat → Option Nat} {cb : Nat} {c : Cl} (hC : Client h T cb c) (h1 : c.out.length ≤ 1099511627776) (h2 : c.told.length ≤ 1099511627776) (h3 : c.rb.length ≤ 1099511627776) {K : Option Addr → Heap → Prop}
    (hk : ∀ h' T' cb', Client h' T' cb' c → Ext h h' → (∀ k, T' k ≠ none → h.size ≤ k) → K (some ⟨cb', 0, none⟩) h') : m_client_Client_Fork (some ⟨cb, 0, none⟩) K h := by
  obtain ⟨rb, mb, so, st, sb, hR⟩ := hC
  unfold m_client_Client_Fork g_client_Client_Fork
  have q := hR.cells
  have lcb := blk_lt q
  refine iteP_false (deref_ (ldPk q rfl (ldIk q rfl (ldIk q rfl (ldIk q rfl (ldSk q rfl (ldBk q rfl (ldIk q rfl (ldIk q rfl (ldMk q rfl (ldLk (s := so) q rfl (ldLk (s := st) q rfl (ldIk q rfl (ldIk q rfl (newK fun h14 c14 e14 z14 => stsAll c14 rfl rfl fun h15 c15 u15 z15 => deref_ (deref_ ?_))))))))))))))))
  have e15 : Ext h h15 := e14.then u15 fun k hk => by omega
  have hR15 := hR.ext e15
  refine ldPk hR15.cells rfl (ldMk hR15.cells rfl (RFork_spec' hR15.rcell hR15.rbs h3 fun h23 rb' sb' r23 ho23 hrb hsr e23 => ⟨⟨(cell_block (keepE hR15.cells e23)).trans rfl, trivial⟩, ?_⟩))
  have z23 := e23.size
  have lrb := blk_lt r23
  have hR23 := hR15.ext e23
  refine MClone_spec' hR23.map fun h25 m25 e25 z25 => ?_
  have c25 := keepE (keepE c15 e23) e25
  refine put2 c25 (show 0 < 13 by decide) rfl fun h26 c26 u26 z26 => put2 c26 (show 0 + 8 < 13 by decide) rfl fun h27 c27 u27 z27 => deref_ (deref_ ?_)
  have u27' : Upd (· = h.size) h25 h27 := u26.trans u27
  have e27 : Ext h h27 := (((e15.trans e23).trans e25)).then u27' fun k hk => by omega
  have hR27 := hR.ext e27
  have hol : so.len = c.out.length := Bytes.length hR27.out.row
  have htl : st.len = c.told.length := by
    have := hR27.told.len
    rw [flat_len tC_len] at this
    omega
  refine ldLk (s := so) hR27.cells rfl (ldLk (s := st) hR27.cells rfl ?_)
  refine SClone_spec' hR27.out.row h1 fun so' h35 ho35 e35 => ⟨⟨(cell_block (keepE hR27.cells e35)).trans rfl, trivial⟩, ?_⟩
  have hR35 := hR27.ext e35
  refine TClone_spec' hR35.told.row h2 fun st' h37 ho37 e37 => ?_
  have c37 := keepE (keepE c27 e35) e37
  have z27' : h27.size = h25.size := by omega
  have z35 := e35.size
  have z37 := e37.size
  refine put2 c37 (show 0 + 9 < 13 by decide) rfl fun h38 c38 u38 z38 => put2 c38 (show 0 + 10 < 13 by decide) rfl fun h39 c39 u39 z39 => ?_
  have u39' : Upd (· = h.size) h37 h39 := u38.trans u39
  have e39 : Ext h h39 := ((e27.trans e35).trans e37).then u39' fun k hk => by omega
  have k39 : ∀ {k : Nat}, k < h37.size → k ≠ h.size → h39[k]? = h37[k]? := fun {k} hk hne => u39'.old k hk hne
  have k27 : ∀ {k : Nat}, k < h25.size → k ≠ h.size → h39[k]? = h25[k]? := fun {k} hk hne =>
    (k39 (by omega) hne).trans ((e37.old k (by omega)).trans ((e35.old k (by omega)).trans (u27'.old k hk hne)))
  have k23 : ∀ {k : Nat}, k < h23.size → k ≠ h.size → h39[k]? = h23[k]? := fun {k} hk hne => (k27 (by omega) hne).trans (e25.old k hk)
  have lsb : ∀ k, sb'.blk = some k → h15.size ≤ k ∧ k < h23.size := fun k hk => ho23.lt hk
  have lso : ∀ k, so'.blk = some k → h27.size ≤ k ∧ k < h35.size := fun k hk => ho35.lt hk
  have lst : ∀ k, st'.blk = some k → h35.size ≤ k ∧ k < h37.size := fun k hk => ho37.lt hk
  obtain ⟨T', hC', hT'⟩ := mk_client2 (h := h39) (cb := h.size) (rb := rb') (mb := h23.size) (so := so') (st := st') (sb := sb') (c := c) (base := h.size)
    (by rw [c39]; rfl) ((k23 lrb (by omega)).trans r23) (m25.congr (k27 (by omega) (by omega)))
    ((ho35.congr fun k hk hl _ => (k39 (by omega) (by have := lso k hk; omega)).trans (e37.old k hl)).base (Nat.zero_le _)) ((ho37.congr fun k hk hl _ => k39 hl (by have := lst k hk; omega)).base (Nat.zero_le _))
    ((ho23.congr fun k hk hl _ => k23 hl (by have := lsb k hk; omega)).base (Nat.zero_le _)) (by omega) (by omega) (by omega)
    (fun k hk => by have := lso k hk; omega) (fun k hk => ⟨by have := lst k hk; omega, fun h9 => by have := lst k hk; have := lso k h9; omega⟩)
    (fun k hk => ⟨⟨by have := lsb k hk; omega, fun h9 => hsr (by rw [hk, h9]), by have := lsb k hk; omega⟩, fun h9 => by have := lsb k hk; have := lso k h9; omega, fun h9 => by have := lsb k hk; have := lst k h9; omega⟩)
    (Nat.le_refl _) (by omega) (by omega) (fun k hk => by have := lso k hk; omega) (fun k hk => by have := lst k hk; omega) (fun k hk => by have := lsb k hk; omega)
  exact hk h39 T' h.size hC' e39 hT'

end Go.Proofs.YtcmedplogmjiiaaGreat
