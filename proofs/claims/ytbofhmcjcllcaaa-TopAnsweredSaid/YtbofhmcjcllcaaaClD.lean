/- The client, D. (gathered by carve.py out of texts proved for other seats) -/
import Derived.Test.YtbofhmcjcllcaaaClC
namespace Go.Proofs.Ytbofhmcjcllcaaa
open Go Go.Fw

theorem mk_client2 {h : Heap} {cb rb mb : Nat} {so st sb : Sl} {c : Cl} (hc : h[cb]? = some (.cells (clC rb mb so st c) 79 (0, 0))) (hr : h[rb]? = some (.cells #[slV sb, .bool c.broken] 108 (0, 0))) (hm : MapI h mb c.waits)
    (ho : Own h 0 so 1 (c.out.map bv)) (ht : Own h 0 st 7 (c.told.flatMap tC)) (hb : Own h 0 sb 1 (c.rb.map bv)) (n1 : cb ≠ rb) (n2 : cb ≠ mb) (n3 : rb ≠ mb)
    (d1 : ∀ k, so.blk = some k → k ≠ cb ∧ k ≠ rb ∧ k ≠ mb) (d2 : ∀ k, st.blk = some k → (k ≠ cb ∧ k ≠ rb ∧ k ≠ mb) ∧ so.blk ≠ some k) (d3 : ∀ k, sb.blk = some k → (k ≠ cb ∧ k ≠ rb ∧ k ≠ mb) ∧ so.blk ≠ some k ∧ st.blk ≠ some k) {base : Nat}
    (l1 : base ≤ cb) (l2 : base ≤ rb) (l3 : base ≤ mb) (l4 : ∀ k, so.blk = some k → base ≤ k) (l5 : ∀ k, st.blk = some k → base ≤ k) (l6 : ∀ k, sb.blk = some k → base ≤ k) : ∃ T, Client h T cb c ∧ ∀ k, T k ≠ none → base ≤ k := by
  have b1 := blk_lt hc
  have b2 := blk_lt hr
  have b3 := hm.lt
  have main : ∀ k, (if k = cb then some 0 else if k = rb then some 1 else if k = mb then some 2 else if so.blk = some k then some 3 else if st.blk = some k then some 4 else if sb.blk = some k then some 5 else none : Option Nat) ≠ none → base ≤ k ∧ k < h.size := fun k hk => by
    by_cases q1 : k = cb
    · omega
    · by_cases q2 : k = rb
      · omega
      · by_cases q3 : k = mb
        · omega
        · by_cases q4 : so.blk = some k
          · exact ⟨l4 k q4, (ho.lt q4).2⟩
          · by_cases q5 : st.blk = some k
            · exact ⟨l5 k q5, (ht.lt q5).2⟩
            · by_cases q6 : sb.blk = some k
              · exact ⟨l6 k q6, (hb.lt q6).2⟩
              · simp only [q1, q2, q3, q4, q5, q6, if_false] at hk; exact absurd rfl hk
  refine ⟨fun k => if k = cb then some 0 else if k = rb then some 1 else if k = mb then some 2 else if so.blk = some k then some 3 else if st.blk = some k then some 4 else if sb.blk = some k then some 5 else none, ⟨rb, mb, so, st, sb, ⟨hc, hr, hm, ho, ht, hb.row, by simp, ?_, ?_, fun k hk => ?_, fun k hk => ?_, fun k hk => ?_, fun k hk => (main k hk).2⟩⟩, fun k hk => (main k hk).1⟩
  · show (if _ then _ else _) = _
    rw [if_neg (fun e => n1 e.symm), if_pos rfl]
  · show (if _ then _ else _) = _
    rw [if_neg (fun e => n2 e.symm), if_neg (fun e => n3 e.symm), if_pos rfl]
  · have := d1 k hk
    show (if _ then _ else _) = _
    rw [if_neg this.1, if_neg this.2.1, if_neg this.2.2, if_pos hk]
  · have := d2 k hk
    show (if _ then _ else _) = _
    rw [if_neg this.1.1, if_neg this.1.2.1, if_neg this.1.2.2, if_neg this.2, if_pos hk]
  · have := d3 k hk
    show (if _ then _ else _) = _
    rw [if_neg this.1.1, if_neg this.1.2.1, if_neg this.1.2.2, if_neg this.2.1, if_neg this.2.2, if_pos hk]

theorem bv_one (l : List UInt8) : (l.map bv).all oneCell = true := by simp [List.all_map, Function.comp_def, bv, oneCell]

theorem BClone_spec' {h : Heap} {s : Sl} {l : List UInt8} (hb : Bytes h s l) (hl : l.length ≤ 1099511627776) {K : Sl → Heap → Prop} (hk : ∀ t h', Own h' h.size t 1 (l.map bv) → Ext h h' → K t h') : m_bytes_Clone s K h := by
  have hlen := Bytes.length hb
  exact cloneG hb (bv_one l) rfl (by omega) (by omega) hk

theorem SClone_spec' {h : Heap} {s : Sl} {l : List UInt8} (hb : Bytes h s l) (hl : l.length ≤ 1099511627776) {K : Sl → Heap → Prop} (hk : ∀ t h', Own h' h.size t 1 (l.map bv) → Ext h h' → K t h') : m_slices_Clone_byte_byte_ s K h := by
  have hlen := Bytes.length hb
  exact cloneG hb (bv_one l) rfl (by omega) (by omega) hk

end Go.Proofs.Ytbofhmcjcllcaaa
