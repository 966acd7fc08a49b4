/- aloneBytes, over rows that lie in blocks of their own. -/
import Derived.Test.YtpbpooaleiolcaaFrK
namespace Go.Proofs.Ytpbpooaleiolcaa
open Go Go.Fw

def vv (i : Nat) : UInt8 := UInt8.ofNat (48 + i % 200)
theorem vv_val (i : Nat) : IntKind.wrap .u8 (IntKind.wrap .i64 ((48 : Int) + Int.tmod (i : Int) 200)) = ((vv i).toNat : Int) := by
  have e : Int.tmod (i : Int) 200 = ((i % 200 : Nat) : Int) := by
    rw [Int.tmod_eq_emod_of_nonneg (by omega)]; omega
  rw [e, wrap64 (by omega) (by omega), wrap8_mod]
  unfold vv
  simp

theorem Own.store {h : Heap} {base : Nat} {s : Sl} {l : List UInt8} (ho : Own h base s 1 (l.map bv)) {m : Nat} (hm : m < s.len) (y : UInt8) {K : Heap → Prop}
    (hk : ∀ h', Own h' base s 1 ((l.set m y).map bv) → Upd (fun k => s.blk = some k) h h' → h'.size = h.size → K h') : idxA s.ptr s.len (m : Int) 1 fun b o => st h b o (bv y) K := by
  have hcap := ho.cap
  rcases ho.at_ with ⟨_, h0⟩ | ⟨b, c, e, hp, hb, hblk, hc, hv⟩
  · omega
  · refine ⟨b, 0, hp, by omega, by omega, ?_⟩
    have e0 : 0 + (m : Int).toNat * 1 = m := by omega
    rw [e0]
    refine st_intro hblk (by omega) rfl (hk _ ⟨?_, hcap, ho.big, .inr ⟨b, _, e, hp, hb, put_block hblk, by simpa using hc, ?_⟩⟩ ?_ put_size)
    · have := ho.len; simpa using this
    · rw [List.map_set, hv, Array.toList_setIfInBounds, List.take_set]
    · exact (Upd.put h b m _).mono fun k _ hk => by subst hk; simp [Sl.blk, hp]

/-- append, telling what stays where the row moves -/
theorem Own.app2 {h : Heap} {base : Nat} {s : Sl} {size bytes n : Nat} {vs new zs : List Value} {elem : TypeId} {K : Sl → Heap → Prop}
    (ho : Own h base s size vs) (hnew : new.length = n * size) (hone : new.all oneCell = true) (hz : zs.length = size) (hb : (s.len + n) * bytes ≤ 140737488355328) (hl : s.len + n ≤ 140737488355328) (hbase : base ≤ h.size)
    (hk : ∀ s' h', Own h' base s' size (vs ++ new) → s'.len = s.len + n → Upd (fun k => s.blk = some k) h h' → (s'.blk = s.blk ∨ s'.blk = some h.size ∧ Ext h h') → K s' h') :
    Fw.app elem size bytes zs s n new h K := by
  have hlen := ho.len
  have hcap := ho.cap
  refine ⟨fun hroom => ?_, fun hgt => ⟨hb, hl, ho.row.rd fun cap h1 h2 => ?_⟩⟩
  · rcases ho.at_ with ⟨hp, h0⟩ | ⟨b, c, e, hp, hbb, hblk, hc, hv⟩
    · left
      have hn : n = 0 := by omega
      have hnil : new = [] := List.eq_nil_of_length_eq_zero (by rw [hnew, hn, Nat.zero_mul])
      refine ⟨hnil, hk _ _ ?_ rfl (Upd.refl _ _) (.inl rfl)⟩
      refine ⟨by simp [hnil, hn, hlen], hroom, ho.big, .inl ⟨hp, h0⟩⟩
    · right
      have hle : s.len * size + new.length ≤ c.size := by
        rw [hc, hnew, ← Nat.add_mul]; exact Nat.mul_le_mul_right _ hroom
      refine ⟨b, 0, hp, free_block hblk (by simpa using hle), hone, ?_⟩
      obtain ⟨c', hc', hl'⟩ := puts_block (vs := new) (o := 0 + s.len * size) hblk (by simpa using hle)
      refine hk _ _ ⟨?_, hroom, ho.big, .inr ⟨b, c', e, hp, hbb, hc', ?_, ?_⟩⟩ rfl ((Upd.puts h b _ new).mono fun k _ hk => by subst hk; simp [Sl.blk, hp]) (.inl rfl)
      · simp [hlen, hnew, Nat.add_mul]
      · rw [← hc, ← Array.length_toList, hl']
        simp
        omega
      · rw [hl']
        simp only [Nat.zero_add]
        rw [Nat.add_mul, ← hnew, List.take_append_of_le_length (by simp; omega), List.take_of_length_le (by simp; omega), hv]
  · refine hk _ _ ⟨by simp [hlen, hnew, Nat.add_mul], h1, h2, .inr ⟨h.size, _, elem, rfl, hbase, push_new, ?_, ?_⟩⟩ rfl ((Ext.push h _).upd _) (.inr ⟨rfl, Ext.push h _⟩)
    · simp only [List.size_toArray, List.length_append, zerosL_length', hz, hlen, hnew]
      rw [← Nat.add_mul, ← Nat.add_mul]
      congr 1
      omega
    · simp only []
      rw [List.take_append_of_le_length (by simp [hlen, hnew, Nat.add_mul]), List.take_of_length_le (by simp [hlen, hnew, Nat.add_mul])]

/-- what was, is still there where its block's row has grown -/
theorem Row.of_prefix {h0 h : Heap} {b0 b1 : Nat} {x g : Sl} {vs us r : List Value} (hx : Own h0 b0 x 1 us) (hg : Own h b1 g 1 (vs ++ r)) (hblk : g.blk = x.blk) (hl : vs.length = x.len) : Row h x 1 vs := by
  refine ⟨by omega, hx.cap, hx.big, ?_⟩
  rcases Nat.eq_zero_or_pos x.len with h9 | h9
  · exact .inl h9
  · right
    have hc := hx.cap
    rcases hx.at_ with ⟨_, q⟩ | ⟨b, c, e, hp, _⟩
    · omega
    · rcases hg.at_ with ⟨q, _⟩ | ⟨b', c', e', hp', _⟩
      · simp [Sl.blk, q, hp] at hblk
      · have hbb : b' = b := by simpa [Sl.blk, hp, hp'] using hblk
        subst hbb
        rcases hg.row.at_ with q | ⟨b2, o2, hp2, hh⟩
        · have := hg.len; simp at this; omega
        · rw [hp'] at hp2
          cases hp2
          exact ⟨b', 0, hp, (has_append.1 hh).1⟩

end Go.Proofs.Ytpbpooaleiolcaa
