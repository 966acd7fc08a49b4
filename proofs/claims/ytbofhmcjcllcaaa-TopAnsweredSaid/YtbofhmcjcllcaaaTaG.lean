/- The tick that begins each of a client's calls, for any call (printed by gen.py for the seat of Client). -/
import Derived.Test.YtbofhmcjcllcaaaExM
import Derived.Test.YtbofhmcjcllcaaaM
namespace Go.Proofs.Ytbofhmcjcllcaaa
open Go Go.Fw

def g_client_Client_at__client_Client_Tick_1 (f_client_Client_Waiting : (Option Addr) → (Sl → Heap → Prop) → Heap → Prop) (f_client_Client_fall : (Option Addr) → Int → (Heap → Prop) → Heap → Prop) (f_client_Client_Tick_1 : (Int → Heap → Prop) → Heap → Prop) (c : Option Addr) (at_ : Int) (K : Int → Heap → Prop) (h : Heap) : Prop :=
  bindI 0 fun t => 
  bindB c.isNone fun t1 => 
  iteP t1 (
    bindI 1 fun t2 => 
    K t2 h) (
    iteP (decide (at_ < 0)) (
      bindI 2 fun t3 => 
      K t3 h) (
      bindB (decide (at_ > 1152921504606846976)) fun t4 => 
      iteP t4 (
        bindI 2 fun t5 => 
        K t5 h) (
        derefP c fun b o => 
        ldI h b (o + 6) .i64 fun t6 => 
        bindB (decide (at_ < t6)) fun t7 => 
        iteP t7 (
          bindI 7 fun t8 => 
          K t8 h) (
          derefP c fun b9 o10 => 
          st h b9 (o10 + 6) (Value.int .i64 at_) fun h11 => 
          f_client_Client_Waiting c (fun t12 h13 =>
            loopM (σ := Int × Unit) (fun J14 s h15 =>
              (fun (s33 : Int) =>
                iteP (decide (s33 < (t12.len : Int))) (
                  idxA t12.ptr t12.len s33 1 fun b16 o17 => 
                  ldI h15 b16 o17 .i64 fun t18 => 
                  bindI t18 fun id => 
                  derefP c fun b19 o20 => 
                  derefP c fun b21 o22 => 
                  ldM h15 b19 (o20 + 8) fun t23 => 
                  ldI h15 b21 (o22 + 1) .i64 fun t24 => 
                  mapGet (.int .i64) h15 t23 (Value.int .i64 id) fun r => asI (r.getD (Value.int .i64 0)) .i64 fun t25 => 
                  need (heldL h15 [(b21, o22 + 1, Value.int .i64 t24)]) <|
                  iteP (decide ((IntKind.wrap .i64 (at_ - t25)) ≥ t24)) (
                    f_client_Client_fall c id (fun h26 =>
                      J14 (IntKind.wrap .i64 (s33 + 1), ()) h26) h15) (
                    J14 (IntKind.wrap .i64 (s33 + 1), ()) h15)) (
                  f_client_Client_Tick_1 (fun t27 h28 =>
                    bindI t27 fun t29 => 
                    K t29 h28) h15)) s.1) (0, ()) h13) h11))))

end Go.Proofs.Ytbofhmcjcllcaaa
