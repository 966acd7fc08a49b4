/- ProtoBack's law, on its model. -/
import Derived.Test.YtcgpdmlopbnpcaaPrG
namespace Go.Proofs.Ytcgpdmlopbnpcaa
open Go Go.Fw

theorem readR_small (lb : List UInt8) : (readR lb).1.2.2.2.2.1.size < 9223372036854775808 := by
  have := textR_lt lb
  unfold readR
  split
  · show (0 : Nat) < _
    omega
  · show (textR lb).size < _
    omega

theorem reqL_len (r : Rq) : (reqL r).length = 34 + r.2.2.2.2.1.size := by
  have hsz : r.2.2.2.2.1.data.toList.length = r.2.2.2.2.1.size := by simp
  unfold reqL
  simp only [List.length_append, hsz]
  show 1 + 32 + 1 + _ = _
  omega

theorem ProtoBack_true {r : Rq} {a : An} {b : Sl} {lb : List UInt8} {h : Heap} {K : Bool → Heap → Prop} (hs : r.2.2.2.2.1.size < 9223372036854775808) (hb : Bytes h b lb) (hk : ∀ h', Ext h h' → K true h') : m_spillwaylaw19_ProtoBack r a b K h := by
  unfold m_spillwaylaw19_ProtoBack g_spillwaylaw19_ProtoBack
  refine newK fun h2 c1 e2 z2 => newK fun h4 c3 e4 z4 => ?_
  have x4 := e2.trans e4
  replace c1 := keepE c1 e4
  refine ldIk c1 rfl (ldIk c1 rfl (ldIk c1 rfl (ldIk c1 rfl (ldSk c1 rfl (ldIk c1 rfl ?_)))))
  refine Request_spec (r := r) hs fun t10 h12 ho12 e12 => bindI_intro ?_
  refine cutP_intro (fun _ h' => Ext h4 h') ?_ ?_
  · rintro u h33 e33
    have c33 := keepE c3 e33
    refine ldIk c33 rfl (ldIk c33 rfl (ldIk c33 rfl (ldIk c33 rfl (ldIk c33 rfl ?_))))
    refine Answer_spec (r := a) fun t39 h41 ho41 e41 => bindI_intro ?_
    have x41 := e33.trans e41
    refine cutP_intro (fun _ h' => Ext h4 h') ?_ ?_
    · rintro u h64 e64
      refine ReadRequest_spec (hb.ext (x4.trans e64)) fun h68 e68 => ?_
      refine newK fun h70 c70 e70 z70 => stsAll c70 rfl rfl fun h71 c71 u71 z71 => bindI_intro (bindI_intro ?_)
      have w68 := e68.size
      have x71 : Ext h64 h71 := (e68.trans e70).then u71 fun k hk => by omega
      have y71 := (x4.trans e64).trans x71
      refine ⟨fun e => ?_, fun _ => live_spec fun h90 e90 => bindB_intro (hk h90 (y71.trans e90))⟩
      have e' : (readR lb).2.1 = 0 := by simpa using e
      obtain ⟨hR, hB⟩ := req_read e'
      refine ldIk c71 rfl (ldIk c71 rfl (ldIk c71 rfl (ldIk c71 rfl (ldSk c71 rfl (ldIk c71 rfl ?_)))))
      refine Request_spec (r := (readR lb).1) (readR_small lb) fun t80 h82 ho82 e82 => bindI_intro ?_
      rw [if_pos hR]
      refine iteP_neg rfl ?_
      have hq : reqB (readR lb).1 = lb := by unfold reqB; rw [if_pos hR]; exact hB
      rw [hq] at ho82
      refine Same_spec ho82.row (hb.ext (y71.trans e82)) ?_
      rw [decide_eq_true rfl]
      exact iteP_false (live_spec fun h90 e90 => bindB_intro (hk h90 ((y71.trans e82).trans e90)))
    · refine ⟨fun e => ?_, fun _ => x41⟩
      have hR : rightA a = true := by
        cases hc : rightA a with
        | true => rfl
        | false => rw [hc] at e; simp at e
      have hB : ansB a = ansL a := by unfold ansB; rw [if_pos hR]
      rw [hB] at ho41
      refine ReadAnswer_spec ho41.row fun h47 e47 => ?_
      rw [read_ans hR]
      refine newK fun h49 c49 e49 z49 => stsAll c49 rfl rfl fun h50 c50 u50 z50 => bindI_intro (bindI_intro (iteP_neg rfl ?_))
      have w47 := e47.size
      have x50 : Ext h41 h50 := (e47.trans e49).then u50 fun k hk => by omega
      have c3' := keepE c33 (e41.trans x50)
      refine ldIk c50 rfl (ldIk c50 rfl (ldIk c50 rfl (ldIk c50 rfl (ldIk c50 rfl ?_))))
      refine ldIk c3' rfl (ldIk c3' rfl (ldIk c3' rfl (ldIk c3' rfl (ldIk c3' rfl ?_))))
      exact iteP_neg (by simp) (x41.trans x50)
  · refine ⟨fun e => ?_, fun _ => e12⟩
    have hR : rightB r = true := by
      cases hc : rightB r with
      | true => rfl
      | false => rw [hc] at e; simp at e
    have hB : reqB r = reqL r := by unfold reqB; rw [if_pos hR]
    rw [hB] at ho12
    have hlen := Bytes.length ho12.row
    rw [reqL_len] at hlen
    have ht := right_text hR
    refine ReadRequest_spec ho12.row fun h17 e17 => ?_
    rw [read_req hR]
    refine newK fun h19 c19 e19 z19 => stsAll c19 rfl rfl fun h20 c20 u20 z20 => bindI_intro (bindI_intro (iteP_neg rfl ?_))
    have w17 := e17.size
    have x20 : Ext h12 h20 := (e17.trans e19).then u20 fun k hk => by omega
    have c1' := keepE c1 (e12.trans x20)
    refine ldIk c20 rfl (ldIk c20 rfl (ldIk c20 rfl (ldIk c20 rfl (ldSk c20 rfl (ldIk c20 rfl ?_)))))
    refine ldIk c1' rfl (ldIk c1' rfl (ldIk c1' rfl (ldIk c1' rfl (ldSk c1' rfl (ldIk c1' rfl ?_)))))
    refine iteP_neg (by rw [eqRq r]; rfl) (iteP_neg (by rw [hlen]; simp; omega) (e12.trans x20))

end Go.Proofs.Ytcgpdmlopbnpcaa
