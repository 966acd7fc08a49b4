/- What must be whatever is asked; and ProtoReads' law, on its model. -/
import Derived.Test.YtcgpdmlopbnpcaaPrF
namespace Go.Proofs.Ytcgpdmlopbnpcaa
open Go Go.Fw

def liveR : Rq := (1, 4, 0, 0, ByteArray.mk #[], 7, ())
theorem liveR_right : rightB liveR = true := by rfl
theorem liveR_bytes : reqB liveR = [4, 0, 0, 0, 0, 0, 0, 0, 1, 0, 0, 0, 0, 0, 0, 0, 0, 0, 0, 0, 0, 0, 0, 0, 0, 0, 0, 0, 0, 0, 0, 0, 7, 0] := by decide

theorem live_spec {h : Heap} {K : Bool → Heap → Prop} (hk : ∀ h', Ext h h' → K true h') : m_spillwaylaw19_live K h := by
  unfold m_spillwaylaw19_live g_spillwaylaw19_live
  refine Request_spec (r := liveR) (by decide) fun out h2 ho e2 => bindI_intro ?_
  rw [if_pos liveR_right]
  have hL : reqB liveR = reqL liveR := by unfold reqB; rw [if_pos liveR_right]
  refine ReadRequest_spec ho.row fun h6 e6 => ?_
  rw [hL, read_req liveR_right]
  refine newK fun h7 c7 e7 z7 => stsAll c7 rfl rfl fun h8 c8 u8 z8 => bindI_intro (bindI_intro ?_)
  have x8 : Ext h2 h8 := (e6.trans e7).then u8 fun k hk => by have := e6.size; omega
  have hb8 : Bytes h8 out (reqB liveR) := ho.row.ext x8
  have hlen := hb8.length
  rw [liveR_bytes] at hb8 hlen
  refine iteP_pos rfl (iteP_pos (by rw [hlen]; rfl) ?_)
  refine Bytes.idx hb8 (n := 0) rfl rfl (iteP_pos rfl ?_)
  refine Bytes.idx hb8 (n := 8) rfl rfl (iteP_pos rfl ?_)
  refine Bytes.idx hb8 (n := 32) rfl rfl (iteP_pos rfl ?_)
  refine iteP_pos rfl (iteP_pos rfl (ldIk c8 rfl (bindB_intro (hk h8 (e2.trans x8)))))

theorem eqRq (r : Rq) : (bif r.1 == r.1 then (bif r.2.1 == r.2.1 then (bif r.2.2.1 == r.2.2.1 then (bif r.2.2.2.1 == r.2.2.2.1 then (bif strEq r.2.2.2.2.1 r.2.2.2.2.1 then (bif r.2.2.2.2.2.1 == r.2.2.2.2.2.1 then true else false) else false) else false) else false) else false) else false) = true := by
  simp [strEq_self]

theorem ProtoReads_true {b : Sl} {lb : List UInt8} {h : Heap} {K : Bool → Heap → Prop} (hb : Bytes h b lb) (hsz : lb.length ≤ 1048576) (hk : ∀ h', Ext h h' → K true h') : m_spillwaylaw19_ProtoReads b K h := by
  unfold m_spillwaylaw19_ProtoReads g_spillwaylaw19_ProtoReads
  refine Hand_spec hb (by omega) fun t h1 ht e1 => ?_
  refine ReadRequest_spec ht.bytes fun h5 e5 => ?_
  refine newK fun h7 c7 e7 z7 => stsAll c7 rfl rfl fun h8 c8 u8 z8 => bindI_intro (bindI_intro ?_)
  have w5 := e5.size
  have x8 : Ext h1 h8 := (e5.trans e7).then u8 fun k hk => by omega
  refine RReadRequest_spec (hb.ext (e1.trans x8)) fun h12 e12 => ?_
  refine newK fun h14 c14 e14 z14 => stsAll c14 rfl rfl fun h15 c15 u15 z15 => bindI_intro (bindI_intro ?_)
  have w12 := e12.size
  have x15 : Ext h8 h15 := (e12.trans e14).then u15 fun k hk => by omega
  refine ReadAnswer_spec (ht.ext (x8.trans x15)).bytes fun h19 e19 => ?_
  refine newK fun h21 c21 e21 z21 => stsAll c21 rfl rfl fun h22 c22 u22 z22 => bindI_intro (bindI_intro ?_)
  have w19 := e19.size
  have x22 : Ext h15 h22 := (e19.trans e21).then u22 fun k hk => by omega
  refine RReadAnswer_spec (hb.ext (((e1.trans x8).trans x15).trans x22)) fun h26 e26 => ?_
  refine newK fun h28 c28 e28 z28 => stsAll c28 rfl rfl fun h29 c29 u29 z29 => bindI_intro (bindI_intro ?_)
  have w26 := e26.size
  have x29 : Ext h22 h29 := (e26.trans e28).then u29 fun k hk => by omega
  refine live_spec fun h32 e32 => iteP_true ?_
  have d8 := keepE c8 (((x15.trans x22).trans x29).trans e32)
  have d15 := keepE c15 ((x22.trans x29).trans e32)
  have d22 := keepE c22 (x29.trans e32)
  have d29 := keepE c29 e32
  have x32 := ((((x8.trans x15).trans x22).trans x29).trans e32)
  refine ldIk d8 rfl (ldIk d8 rfl (ldIk d8 rfl (ldIk d8 rfl (ldSk d8 rfl (ldIk d8 rfl ?_)))))
  refine ldIk d15 rfl (ldIk d15 rfl (ldIk d15 rfl (ldIk d15 rfl (ldSk d15 rfl (ldIk d15 rfl ?_)))))
  refine iteP_pos (eqRq _) (iteP_pos (by simp) (iteP_pos (by simp) ?_))
  refine ldIk d22 rfl (ldIk d22 rfl (ldIk d22 rfl (ldIk d22 rfl (ldIk d22 rfl ?_))))
  refine ldIk d29 rfl (ldIk d29 rfl (ldIk d29 rfl (ldIk d29 rfl (ldIk d29 rfl ?_))))
  refine iteP_pos (by simp) (iteP_pos (by simp) (iteP_pos (by simp) ?_))
  exact Kept_spec (ht.ext x32) (hb.ext (e1.trans x32)) (by omega) (bindB_intro (hk h32 (e1.trans x32)))

end Go.Proofs.Ytcgpdmlopbnpcaa
