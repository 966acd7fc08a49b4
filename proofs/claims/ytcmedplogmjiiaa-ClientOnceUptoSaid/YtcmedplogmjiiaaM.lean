/- The models of the functions. Written by a program out of the translated functions. -/
import Derived.Test.YtcmedplogmjiiaaFwA
import GoSem.Machine.Frame
import GoSem.Op.String
import Derived.Test.YtcmedplogmjiiaaExM
namespace Go.Proofs.Ytcmedplogmjiiaa
open Go Go.Fw

/-- proto.from -/
def g_proto_from (n : Int) (lo : Int) (hi : Int) (K : Bool → Heap → Prop) (h : Heap) : Prop :=
  iteP (decide (n ≥ lo)) (
    bindB (decide (n ≤ hi)) fun t => 
    K t h) (
    K false h)

def m_proto_from (n : Int) (lo : Int) (hi : Int) (K : Bool → Heap → Prop) (h : Heap) : Prop := g_proto_from n lo hi K h

/-- proto.isName -/
def g_proto_isName (f_proto_from : Int → Int → Int → (Bool → Heap → Prop) → Heap → Prop) (s : ByteArray) (K : Bool → Heap → Prop) (h : Heap) : Prop :=
  loopM (σ := Int × Unit) (fun J1 s2 h3 =>
    (fun (s6 : Int) =>
      iteP (decide (s6 < (s.size : Int))) (
        bindI s6 fun i => 
        idxS s i fun t => 
        f_proto_from (IntKind.wrap .i64 t) 33 126 (fun t4 h5 =>
          iteP (!t4) (
            K false h5) (
            J1 (IntKind.wrap .i64 (s6 + 1), ()) h5)) h3) (
        f_proto_from (s.size : Int) 1 64 (fun t6 h7 =>
          bindB t6 fun t8 => 
          K t8 h7) h3)) s2.1) (0, ()) h

def m_proto_isName (s : ByteArray) (K : Bool → Heap → Prop) (h : Heap) : Prop := g_proto_isName m_proto_from s K h

/-- proto.Right -/
def g_proto_Right (f_proto_from : Int → Int → Int → (Bool → Heap → Prop) → Heap → Prop) (f_proto_isName : ByteArray → (Bool → Heap → Prop) → Heap → Prop) (r : Int × Int × Int × Int × ByteArray × Int × Unit) (K : Bool → Heap → Prop) (h : Heap) : Prop :=
  newC h [Value.int .i64 r.1, Value.int .u8 r.2.1, Value.int .i64 r.2.2.1, Value.int .i64 r.2.2.2.1, Value.string r.2.2.2.2.1, Value.int .i64 r.2.2.2.2.2.1] 38 fun b h1 => 
  cutP (σ := Bool × Unit) (fun s h10 =>
    (fun (asks9 : Bool) =>
      cutP (σ := Bool × Unit) (fun s15 h16 =>
        (fun (bare14 : Bool) =>
          ldI h16 b 0 .i64 fun t17 => 
          f_proto_from t17 0 2147483647 (fun t18 h19 =>
            iteP (!t18) (
              K false h19) (
              ldI h19 b (0 + 1) .u8 fun t20 => 
              cutP (σ := Bool × Unit) (fun s24 h25 =>
                (fun (s32 : Bool) =>
                  iteP s32 (
                    iteP asks9 (
                      ldS h25 b (0 + 4) fun t26 => 
                      bindB (strEq t26 (ByteArray.mk #[])) fun t27 => 
                      K t27 h25) (
                      K false h25)) (
                    bindB (t20 == 2) fun t28 => 
                    iteP t28 (
                      iteP asks9 (
                        ldS h25 b (0 + 4) fun t29 => 
                        bindB (decide ((t29.size : Int) ≤ 64)) fun t30 => 
                        K t30 h25) (
                        K false h25)) (
                      bindB (t20 == 4) fun t31 => 
                      iteP t31 (
                        iteP bare14 (
                          ldI h25 b (0 + 5) .i64 fun t32 => 
                          f_proto_from t32 1 2147483647 (fun t33 h34 =>
                            iteP t33 (
                              ldS h34 b (0 + 4) fun t35 => 
                              bindB (strEq t35 (ByteArray.mk #[])) fun t36 => 
                              K t36 h34) (
                              K false h34)) h25) (
                          K false h25)) (
                        bindB (t20 == 5) fun t37 => 
                        iteP t37 (
                          iteP bare14 (
                            ldI h25 b (0 + 5) .i64 fun t38 => 
                            iteP (t38 == 0) (
                              ldS h25 b (0 + 4) fun t39 => 
                              f_proto_isName t39 (fun t40 h41 =>
                                bindB t40 fun t42 => 
                                K t42 h41) h25) (
                              K false h25)) (
                            K false h25)) (
                          K false h25))))) s24.1) (fun J21 =>
                bindB (t20 == 1) fun t22 => 
                iteP t22 (
                  J21 (t22, ()) h19) (
                  bindB (t20 == 3) fun t23 => 
                  J21 (t23, ()) h19)))) h16) s15.1) (fun J11 =>
        ldI h10 b (0 + 2) .i64 fun t12 => 
        iteP (t12 == 0) (
          ldI h10 b (0 + 3) .i64 fun t13 => 
          bindB (t13 == 0) fun bare => 
          J11 (bare, ()) h10) (
          J11 (false, ()) h10))) s.1) (fun J2 =>
    ldI h1 b (0 + 2) .i64 fun t => 
    f_proto_from t 1 1099511627776 (fun t3 h4 =>
      iteP t3 (
        ldI h4 b (0 + 3) .i64 fun t5 => 
        f_proto_from t5 1 1099511627776 (fun t6 h7 =>
          iteP t6 (
            ldI h7 b (0 + 5) .i64 fun t8 => 
            bindB (t8 == 0) fun asks => 
            J2 (asks, ()) h7) (
            J2 (false, ()) h7)) h4) (
        J2 (false, ()) h4)) h1)

def m_proto_Right (r : Int × Int × Int × Int × ByteArray × Int × Unit) (K : Bool → Heap → Prop) (h : Heap) : Prop := g_proto_Right m_proto_from m_proto_isName r K h

/-- frame.New -/
def g_frame_New (K : (Option Addr) → Heap → Prop) (h : Heap) : Prop :=
  newC h [Value.slice none 0 0, Value.bool false] 83 fun b h1 => 
  K (some ⟨b, 0, none⟩) h1

def m_frame_New (K : (Option Addr) → Heap → Prop) (h : Heap) : Prop := g_frame_New  K h

/-- client.New -/
def g_client_New (f_proto_Right : (Int × Int × Int × Int × ByteArray × Int × Unit) → (Bool → Heap → Prop) → Heap → Prop) (f_frame_New : ((Option Addr) → Heap → Prop) → Heap → Prop) (s : Int × Int × Int × Unit) (namespace_ : ByteArray) (K : (Option Addr) → Int → Heap → Prop) (h : Heap) : Prop :=
  newC h [Value.int .i64 s.1, Value.int .i64 s.2.1, Value.int .i64 s.2.2.1] 23 fun b h1 => 
  bindI 0 fun t => 
  ldI h1 b 0 .i64 fun t2 => 
  iteP (decide (t2 < 1)) (
    bindI 2 fun t3 => 
    K none t3 h1) (
    ldI h1 b 0 .i64 fun t4 => 
    iteP (decide (t4 > 60000000)) (
      bindI 2 fun t5 => 
      K none t5 h1) (
      ldI h1 b (0 + 1) .i64 fun t6 => 
      iteP (decide (t6 < 1)) (
        bindI 2 fun t7 => 
        K none t7 h1) (
        ldI h1 b (0 + 2) .i64 fun t8 => 
        ldI h1 b (0 + 1) .i64 fun t9 => 
        iteP (decide (t8 < t9)) (
          bindI 2 fun t10 => 
          K none t10 h1) (
          ldI h1 b (0 + 2) .i64 fun t11 => 
          bindB (decide (t11 > 3600000000)) fun t12 => 
          iteP t12 (
            bindI 2 fun t13 => 
            K none t13 h1) (
            f_proto_Right (0, 5, 0, 0, namespace_, 0, ()) (fun t14 h15 =>
              bindB (!t14) fun t16 => 
              iteP t16 (
                bindI 10 fun t17 => 
                K none t17 h15) (
                ldI h15 b 0 .i64 fun t18 => ldI h15 b (0 + 1) .i64 fun t19 => ldI h15 b (0 + 2) .i64 fun t20 => 
                ldI h15 b (0 + 1) .i64 fun t21 => 
                bothP (
                  f_frame_New (fun t22 h23 =>
                    need (heldL h23 [(b, 0 + 1, Value.int .i64 t21)]) <|
                    need (heldL h23 [(b, 0, Value.int .i64 t18), (b, 0 + 1, Value.int .i64 t19), (b, 0 + 2, Value.int .i64 t20)]) <|
                    newMap h23 fun b24 h25 => 
                    need (heldL h25 [(b, 0 + 1, Value.int .i64 t21)]) <|
                    need (heldL h25 [(b, 0, Value.int .i64 t18), (b, 0 + 1, Value.int .i64 t19), (b, 0 + 2, Value.int .i64 t20)]) <|
                    newC h25 [Value.pointer t22, Value.int .i64 t18, Value.int .i64 t19, Value.int .i64 t20, Value.string namespace_, Value.bool false, Value.int .i64 0, Value.int .i64 1, Value.map (some b24), Value.slice none 0 0, Value.slice none 0 0, Value.int .i64 0, Value.int .i64 t21] 63 fun b26 h27 => 
                    need (heldL h27 [(b, 0 + 1, Value.int .i64 t21)]) <|
                    need (heldL h27 [(b, 0, Value.int .i64 t18), (b, 0 + 1, Value.int .i64 t19), (b, 0 + 2, Value.int .i64 t20)]) <|
                    bindI 0 fun t28 => 
                    K (some ⟨b26, 0, none⟩) t28 h27) h15) (
                  newMap h15 fun b29 h30 => 
                  need (heldL h30 [(b, 0 + 1, Value.int .i64 t21)]) <|
                  need (heldL h30 [(b, 0, Value.int .i64 t18), (b, 0 + 1, Value.int .i64 t19), (b, 0 + 2, Value.int .i64 t20)]) <|
                  f_frame_New (fun t31 h32 =>
                    need (heldL h32 [(b, 0 + 1, Value.int .i64 t21)]) <|
                    need (heldL h32 [(b, 0, Value.int .i64 t18), (b, 0 + 1, Value.int .i64 t19), (b, 0 + 2, Value.int .i64 t20)]) <|
                    newC h32 [Value.pointer t31, Value.int .i64 t18, Value.int .i64 t19, Value.int .i64 t20, Value.string namespace_, Value.bool false, Value.int .i64 0, Value.int .i64 1, Value.map (some b29), Value.slice none 0 0, Value.slice none 0 0, Value.int .i64 0, Value.int .i64 t21] 63 fun b33 h34 => 
                    need (heldL h34 [(b, 0 + 1, Value.int .i64 t21)]) <|
                    need (heldL h34 [(b, 0, Value.int .i64 t18), (b, 0 + 1, Value.int .i64 t19), (b, 0 + 2, Value.int .i64 t20)]) <|
                    bindI 0 fun t35 => 
                    K (some ⟨b33, 0, none⟩) t35 h34) h30))) h1)))))

def m_client_New (s : Int × Int × Int × Unit) (namespace_ : ByteArray) (K : (Option Addr) → Int → Heap → Prop) (h : Heap) : Prop := g_client_New m_proto_Right m_frame_New s namespace_ K h

/-- (*client.Client).Waiting -/
def g_client_Client_Waiting (f_maps_Keys_map_int_int_int_int_ : (Option Nat) → (Value → Heap → Prop) → Heap → Prop) (f_slices_Sorted_int_ : Value → (Sl → Heap → Prop) → Heap → Prop) (c : Option Addr) (K : Sl → Heap → Prop) (h : Heap) : Prop :=
  iteP c.isNone (
    K ⟨none, 0, 0⟩ h) (
    derefP c fun b o => 
    ldM h b (o + 8) fun t => 
    f_maps_Keys_map_int_int_int_int_ t (fun t1 h2 =>
      f_slices_Sorted_int_ t1 (fun t3 h4 =>
        K t3 h4) h2) h)

def m_client_Client_Waiting (c : Option Addr) (K : Sl → Heap → Prop) (h : Heap) : Prop := g_client_Client_Waiting m_maps_Keys_map_int_int_int_int_ m_slices_Sorted_int_ c K h

/-- (*client.Client).fall -/
def g_client_Client_fall (c : Option Addr) (id : Int) (K : Heap → Prop) (h : Heap) : Prop :=
  derefP c fun b o => 
  ldM h b (o + 8) fun t => 
  mapDel (.int .i64) h t (Value.int .i64 id) fun h1 => 
  derefP c fun b2 o3 => 
  ldL h1 b2 (o3 + 10) fun t4 => 
  newC h1 [Value.int .i64 id, Value.int .i64 0, Value.int .u8 0, Value.int .i64 0, Value.int .i64 0, Value.int .i64 0, Value.bool true] 52 fun b5 h6 => 
  rdS ⟨some ⟨b5, 0, none⟩, 1, 1⟩ 7 h6 fun new => app 52 7 56 [Value.int .i64 0, Value.int .i64 0, Value.int .u8 0, Value.int .i64 0, Value.int .i64 0, Value.int .i64 0, Value.bool false] t4 1 new h6 fun t7 h8 => 
  derefP c fun b9 o10 => 
  st h8 b9 (o10 + 10) (Value.slice t7.ptr t7.len t7.cap) fun h11 => 
  K h11

def m_client_Client_fall (c : Option Addr) (id : Int) (K : Heap → Prop) (h : Heap) : Prop := g_client_Client_fall c id K h

/-- (*proto.writer).numbers -/
def g_proto_writer_numbers (w : Option Addr) (l : Sl) (K : Heap → Prop) (h : Heap) : Prop :=
  loopM (σ := Int × Unit) (fun J1 s h2 =>
    (fun (s9 : Int) =>
      iteP (decide (s9 < (l.len : Int))) (
        idxA l.ptr l.len s9 1 fun b o => 
        ldI h2 b o .i64 fun t => 
        bindI t fun n => 
        bindI 56 fun shift => 
        loopM (σ := Int × Unit) (fun J4 s5 h6 =>
          (fun (shift3 : Int) =>
            iteP (decide (shift3 ≥ 0)) (
              derefP w fun b7 o8 => 
              need (0 ≤ shift3) <| 
              ldL h6 b7 o8 fun t9 => 
              newC h6 [Value.int .u8 (IntKind.wrap .u8 (shrV .i64 n shift3))] 5 fun b10 h11 => 
              need (heldL h11 [(b7, o8, Value.slice t9.ptr t9.len t9.cap)]) <|
              rdS ⟨some ⟨b10, 0, none⟩, 1, 1⟩ 1 h11 fun new => app 5 1 1 [Value.int .u8 0] t9 1 new h11 fun t12 h13 => 
              derefP w fun b14 o15 => 
              st h13 b14 o15 (Value.slice t12.ptr t12.len t12.cap) fun h16 => 
              bindI (IntKind.wrap .i64 (shift3 - 8)) fun shift17 => 
              J4 (shift17, ()) h16) (
              J1 (IntKind.wrap .i64 (s9 + 1), ()) h6)) s5.1) (shift, ()) h2) (
        K h2)) s.1) (0, ()) h

def m_proto_writer_numbers (w : Option Addr) (l : Sl) (K : Heap → Prop) (h : Heap) : Prop := g_proto_writer_numbers w l K h

/-- proto.Request -/
def g_proto_Request (f_proto_Right : (Int × Int × Int × Int × ByteArray × Int × Unit) → (Bool → Heap → Prop) → Heap → Prop) (f_proto_writer_numbers : (Option Addr) → Sl → (Heap → Prop) → Heap → Prop) (r : Int × Int × Int × Int × ByteArray × Int × Unit) (K : Sl → Int → Heap → Prop) (h : Heap) : Prop :=
  newC h [Value.int .i64 r.1, Value.int .u8 r.2.1, Value.int .i64 r.2.2.1, Value.int .i64 r.2.2.2.1, Value.string r.2.2.2.2.1, Value.int .i64 r.2.2.2.2.2.1] 38 fun b h1 => 
  bindI 0 fun t => 
  ldI h1 b 0 .i64 fun t2 => ldI h1 b (0 + 1) .u8 fun t3 => ldI h1 b (0 + 2) .i64 fun t4 => ldI h1 b (0 + 3) .i64 fun t5 => ldS h1 b (0 + 4) fun t6 => ldI h1 b (0 + 5) .i64 fun t7 => 
  f_proto_Right (t2, t3, t4, t5, t6, t7, ()) (fun t8 h9 =>
    iteP (!t8) (
      bindI 6 fun t10 => 
      K ⟨none, 0, 0⟩ t10 h9) (
      ldI h9 b (0 + 1) .u8 fun t11 => 
      newC h9 [Value.int .u8 t11] 5 fun b12 h13 => 
      newC h13 [Value.slice none 0 0] 108 fun b14 h15 => 
      sts h15 b14 0 [Value.slice (some ⟨b12, 0, none⟩) 1 1] fun h16 => 
      ldI h16 b 0 .i64 fun t17 => 
      ldI h16 b (0 + 2) .i64 fun t18 => 
      ldI h16 b (0 + 3) .i64 fun t19 => 
      ldI h16 b (0 + 5) .i64 fun t20 => 
      newC h16 [Value.int .i64 t17, Value.int .i64 t18, Value.int .i64 t19, Value.int .i64 t20] 3 fun b21 h22 => 
      f_proto_writer_numbers (some ⟨b14, 0, none⟩) ⟨some ⟨b21, 0, none⟩, 4, 4⟩ (fun h23 =>
        ldL h23 b14 0 fun t24 => 
        ldS h23 b (0 + 4) fun t25 => 
        ldS h23 b (0 + 4) fun t26 => 
        newC h23 [Value.int .u8 (IntKind.wrap .u8 (t25.size : Int))] 5 fun b27 h28 => 
        need (heldL h28 [(b, 0 + 4, Value.string t26)]) <|
        need (heldL h28 [(b, 0 + 4, Value.string t25)]) <|
        need (heldL h28 [(b14, 0, Value.slice t24.ptr t24.len t24.cap)]) <|
        rdS ⟨some ⟨b27, 0, none⟩, 1, 1⟩ 1 h28 fun new => app 5 1 1 [Value.int .u8 0] t24 1 new h28 fun t29 h30 => 
        need (heldL h30 [(b, 0 + 4, Value.string t26)]) <|
        need (heldL h30 [(b, 0 + 4, Value.string t25)]) <|
        app 5 1 1 [Value.int .u8 0] t29 t26.size (byteVals t26) h30 fun t31 h32 => 
        need (heldL h32 [(b, 0 + 4, Value.string t25)]) <|
        bindI 0 fun t33 => 
        K t31 t33 h32) h22)) h1

def m_proto_Request (r : Int × Int × Int × Int × ByteArray × Int × Unit) (K : Sl → Int → Heap → Prop) (h : Heap) : Prop := g_proto_Request m_proto_Right m_proto_writer_numbers r K h

/-- frame.Frame -/
def g_frame_Frame (payload : Sl) (K : Sl → Int → Heap → Prop) (h : Heap) : Prop :=
  bindI 0 fun t => 
  bindI (payload.len : Int) fun n => 
  bindB (decide (n > 4096)) fun t1 => 
  iteP t1 (
    bindI 5 fun t2 => 
    K ⟨none, 0, 0⟩ t2 h) (
    bindB (n == 0) fun t3 => 
    iteP t3 (
      bindI 6 fun t4 => 
      K ⟨none, 0, 0⟩ t4 h) (
      need (0 ≤ (24 : Int)) <| 
      need (0 ≤ (16 : Int)) <| 
      need (0 ≤ (8 : Int)) <| 
      newC h [Value.int .u8 (IntKind.wrap .u8 (shrV .i64 n 24)), Value.int .u8 (IntKind.wrap .u8 (shrV .i64 n 16)), Value.int .u8 (IntKind.wrap .u8 (shrV .i64 n 8)), Value.int .u8 (IntKind.wrap .u8 n)] 5 fun b h5 => 
      rdS payload 1 h5 fun new => app 5 1 1 [Value.int .u8 0] ⟨some ⟨b, 0, none⟩, 4, 4⟩ payload.len new h5 fun t6 h7 => 
      bindI 0 fun t8 => 
      K t6 t8 h7))

def m_frame_Frame (payload : Sl) (K : Sl → Int → Heap → Prop) (h : Heap) : Prop := g_frame_Frame payload K h

/-- frame.Frames -/
def g_frame_Frames (f_frame_Frame : Sl → (Sl → Int → Heap → Prop) → Heap → Prop) (l : Sl) (K : Sl → Int → Heap → Prop) (h : Heap) : Prop :=
  bindI 0 fun t => 
  loopM (σ := Sl × Int × Unit) (fun J1 s h2 =>
    (fun (out : Sl) (s11 : Int) =>
      iteP (decide (s11 < (l.len : Int))) (
        idxA l.ptr l.len s11 1 fun b o => 
        ldL h2 b o fun t3 => 
        f_frame_Frame t3 (fun t4 t5 h6 =>
          bindI t5 fun e => 
          iteP (e != 0) (
            bindI e fun t7 => 
            K ⟨none, 0, 0⟩ t7 h6) (
            rdS t4 1 h6 fun new => app 5 1 1 [Value.int .u8 0] out t4.len new h6 fun t8 h9 => 
            J1 (t8, IntKind.wrap .i64 (s11 + 1), ()) h9)) h2) (
        bindI 0 fun t10 => 
        K out t10 h2)) s.1 s.2.1) (⟨none, 0, 0⟩, 0, ()) h

def m_frame_Frames (l : Sl) (K : Sl → Int → Heap → Prop) (h : Heap) : Prop := g_frame_Frames m_frame_Frame l K h

/-- proto.All -/
def g_proto_All (f_proto_Request : (Int × Int × Int × Int × ByteArray × Int × Unit) → (Sl → Int → Heap → Prop) → Heap → Prop) (f_frame_Frames : Sl → (Sl → Int → Heap → Prop) → Heap → Prop) (l : Sl) (K : Sl → Int → Heap → Prop) (h : Heap) : Prop :=
  bindI 0 fun t => 
  loopM (σ := Sl × Int × Unit) (fun J1 s h2 =>
    (fun (payloads : Sl) (s11 : Int) =>
      iteP (decide (s11 < (l.len : Int))) (
        idxA l.ptr l.len s11 6 fun b o => 
        ldI h2 b o .i64 fun t3 => ldI h2 b (o + 1) .u8 fun t4 => ldI h2 b (o + 2) .i64 fun t5 => ldI h2 b (o + 3) .i64 fun t6 => ldS h2 b (o + 4) fun t7 => ldI h2 b (o + 5) .i64 fun t8 => 
        newC h2 [Value.int .i64 0, Value.int .u8 0, Value.int .i64 0, Value.int .i64 0, Value.string (ByteArray.mk #[]), Value.int .i64 0] 38 fun b9 h10 => 
        sts h10 b9 0 [Value.int .i64 t3, Value.int .u8 t4, Value.int .i64 t5, Value.int .i64 t6, Value.string t7, Value.int .i64 t8] fun h11 => 
        ldI h11 b9 0 .i64 fun t12 => ldI h11 b9 (0 + 1) .u8 fun t13 => ldI h11 b9 (0 + 2) .i64 fun t14 => ldI h11 b9 (0 + 3) .i64 fun t15 => ldS h11 b9 (0 + 4) fun t16 => ldI h11 b9 (0 + 5) .i64 fun t17 => 
        f_proto_Request (t12, t13, t14, t15, t16, t17, ()) (fun t18 t19 h20 =>
          bindI t19 fun err => 
          iteP (err != 0) (
            bindI err fun t21 => 
            K ⟨none, 0, 0⟩ t21 h20) (
            newC h20 [Value.slice t18.ptr t18.len t18.cap] 39 fun b22 h23 => 
            rdS ⟨some ⟨b22, 0, none⟩, 1, 1⟩ 1 h23 fun new => app 39 1 24 [Value.slice none 0 0] payloads 1 new h23 fun t24 h25 => 
            J1 (t24, IntKind.wrap .i64 (s11 + 1), ()) h25)) h11) (
        f_frame_Frames payloads (fun t26 t27 h28 =>
          bindI t27 fun t29 => 
          K t26 t29 h28) h2)) s.1 s.2.1) (⟨none, 0, 0⟩, 0, ()) h

def m_proto_All (l : Sl) (K : Sl → Int → Heap → Prop) (h : Heap) : Prop := g_proto_All m_proto_Request m_frame_Frames l K h

/-- (*client.Client).queue -/
def g_client_Client_queue (f_proto_All : Sl → (Sl → Int → Heap → Prop) → Heap → Prop) (c : Option Addr) (r : Int × Int × Int × Int × ByteArray × Int × Unit) (K : Heap → Prop) (h : Heap) : Prop :=
  newC h [Value.int .i64 r.1, Value.int .u8 r.2.1, Value.int .i64 r.2.2.1, Value.int .i64 r.2.2.2.1, Value.string r.2.2.2.2.1, Value.int .i64 r.2.2.2.2.2.1] 38 fun b h1 => 
  ldI h1 b 0 .i64 fun t => ldI h1 b (0 + 1) .u8 fun t2 => ldI h1 b (0 + 2) .i64 fun t3 => ldI h1 b (0 + 3) .i64 fun t4 => ldS h1 b (0 + 4) fun t5 => ldI h1 b (0 + 5) .i64 fun t6 => 
  newC h1 [Value.int .i64 t, Value.int .u8 t2, Value.int .i64 t3, Value.int .i64 t4, Value.string t5, Value.int .i64 t6] 38 fun b7 h8 => 
  f_proto_All ⟨some ⟨b7, 0, none⟩, 1, 1⟩ (fun t9 t10 h11 =>
    bindI t10 fun _ => 
    derefP c fun b12 o => 
    ldL h11 b12 (o + 9) fun t13 => 
    rdS t9 1 h11 fun new => app 5 1 1 [Value.int .u8 0] t13 t9.len new h11 fun t14 h15 => 
    derefP c fun b16 o17 => 
    st h15 b16 (o17 + 9) (Value.slice t14.ptr t14.len t14.cap) fun h18 => 
    K h18) h8

def m_client_Client_queue (c : Option Addr) (r : Int × Int × Int × Int × ByteArray × Int × Unit) (K : Heap → Prop) (h : Heap) : Prop := g_client_Client_queue m_proto_All c r K h

/-- (*client.Client).Ask$1 -/
def g_client_Client_Ask_1 (f_proto_Right : (Int × Int × Int × Int × ByteArray × Int × Unit) → (Bool → Heap → Prop) → Heap → Prop) (f_client_Client_queue : (Option Addr) → (Int × Int × Int × Int × ByteArray × Int × Unit) → (Heap → Prop) → Heap → Prop) (a0 : Option Addr) (a1 : Option Addr) (a2 : Option Addr) (a3 : Option Addr) (a4 : Option Addr) (K : Int → Heap → Prop) (h : Heap) : Prop :=
  bindI 0 fun t => 
  derefP a0 fun b o => 
  st h b o (Value.int .i64 0) fun h1 => 
  derefP a0 fun b2 o3 => ldI h1 b2 o3 .i64 fun t4 => ldI h1 b2 (o3 + 1) .u8 fun t5 => ldI h1 b2 (o3 + 2) .i64 fun t6 => ldI h1 b2 (o3 + 3) .i64 fun t7 => ldS h1 b2 (o3 + 4) fun t8 => ldI h1 b2 (o3 + 5) .i64 fun t9 => 
  f_proto_Right (t4, t5, t6, t7, t8, t9, ()) (fun t10 h11 =>
    iteP (!t10) (
      bindI 6 fun t12 => 
      K t12 h11) (
      derefP a0 fun b13 o14 => 
      ldI h11 b13 (o14 + 1) .u8 fun t15 => 
      bindB (t15 == 5) fun t16 => 
      iteP t16 (
        bindI 6 fun t17 => 
        K t17 h11) (
        derefP a1 fun b18 o19 => ldP h11 b18 o19 fun t20 => 
        derefP t20 fun b21 o22 => 
        ldB h11 b21 (o22 + 5) fun t23 => 
        iteP (!t23) (
          derefP a2 fun b24 o25 => st h11 b24 o25 (Value.bool true) fun h26 => 
          bindI 0 fun t27 => 
          K t27 h26) (
          derefP a1 fun b28 o29 => ldP h11 b28 o29 fun t30 => 
          derefP t30 fun b31 o32 => 
          ldM h11 b31 (o32 + 8) fun t33 => 
          lenM h11 t33 fun t34 => 
          bindB (decide (t34 ≥ 256)) fun t35 => 
          iteP t35 (
            derefP a2 fun b36 o37 => st h11 b36 o37 (Value.bool true) fun h38 => 
            bindI 0 fun t39 => 
            K t39 h38) (
            derefP a1 fun b40 o41 => ldP h11 b40 o41 fun t42 => 
            derefP t42 fun b43 o44 => 
            ldI h11 b43 (o44 + 7) .i64 fun t45 => 
            derefP a1 fun b46 o47 => ldP h11 b46 o47 fun t48 => 
            derefP t48 fun b49 o50 => 
            ldI h11 b49 (o50 + 7) .i64 fun t51 => 
            derefP a3 fun b52 o53 => st h11 b52 o53 (Value.int .i64 t45) fun h54 => 
            need (heldL h54 [(b49, o50 + 7, Value.int .i64 t51)]) <|
            need (heldL h54 [(b46, o47, Value.pointer t48)]) <|
            derefP a0 fun b55 o56 => 
            st h54 b55 o56 (Value.int .i64 t51) fun h57 => 
            derefP a1 fun b58 o59 => ldP h57 b58 o59 fun t60 => 
            derefP t60 fun b61 o62 => 
            ldI h57 b61 (o62 + 7) .i64 fun t63 => 
            derefP t60 fun b64 o65 => 
            st h57 b64 (o65 + 7) (Value.int .i64 (IntKind.wrap .i64 (t63 + 1))) fun h66 => 
            derefP a1 fun b67 o68 => ldP h66 b67 o68 fun t69 => 
            derefP t69 fun b70 o71 => 
            ldM h66 b70 (o71 + 8) fun t72 => 
            derefP a3 fun b73 o74 => ldI h66 b73 o74 .i64 fun t75 => 
            derefP a4 fun b76 o77 => ldI h66 b76 o77 .i64 fun t78 => 
            mapPut (.int .i64) h66 t72 (Value.int .i64 t75) (Value.int .i64 t78) fun h79 => 
            derefP a1 fun b80 o81 => ldP h79 b80 o81 fun t82 => 
            derefP a0 fun b83 o84 => ldI h79 b83 o84 .i64 fun t85 => ldI h79 b83 (o84 + 1) .u8 fun t86 => ldI h79 b83 (o84 + 2) .i64 fun t87 => ldI h79 b83 (o84 + 3) .i64 fun t88 => ldS h79 b83 (o84 + 4) fun t89 => ldI h79 b83 (o84 + 5) .i64 fun t90 => 
            f_client_Client_queue t82 (t85, t86, t87, t88, t89, t90, ()) (fun h91 =>
              bindI 0 fun t92 => 
              K t92 h91) h79))))) h1

def m_client_Client_Ask_1 (a0 : Option Addr) (a1 : Option Addr) (a2 : Option Addr) (a3 : Option Addr) (a4 : Option Addr) (K : Int → Heap → Prop) (h : Heap) : Prop := g_client_Client_Ask_1 m_proto_Right m_client_Client_queue a0 a1 a2 a3 a4 K h

/-- (*client.Client).at -/
def g_client_Client_at__client_Client_Ask_1 (f_client_Client_Waiting : (Option Addr) → (Sl → Heap → Prop) → Heap → Prop) (f_client_Client_fall : (Option Addr) → Int → (Heap → Prop) → Heap → Prop) (f_client_Client_Ask_1 : (Option Addr) → (Option Addr) → (Option Addr) → (Option Addr) → (Option Addr) → (Int → Heap → Prop) → Heap → Prop) (c : Option Addr) (at_ : Int) (then_ : Option Addr × Option Addr × Option Addr × Option Addr × Option Addr × Unit) (K : Int → Heap → Prop) (h : Heap) : Prop :=
  bindI 0 fun t => 
  bindB c.isNone fun t1 => 
  iteP t1 (
    bindI 1 fun t2 => 
    K t2 h) (
    iteP (decide (at_ < 0)) (
      bindI 2 fun t3 => 
      K t3 h) (
      bindB (decide (at_ > 1152921504606846976)) fun t4 => 
      iteP t4 (
        bindI 2 fun t5 => 
        K t5 h) (
        derefP c fun b o => 
        ldI h b (o + 6) .i64 fun t6 => 
        bindB (decide (at_ < t6)) fun t7 => 
        iteP t7 (
          bindI 7 fun t8 => 
          K t8 h) (
          derefP c fun b9 o10 => 
          st h b9 (o10 + 6) (Value.int .i64 at_) fun h11 => 
          f_client_Client_Waiting c (fun t12 h13 =>
            loopM (σ := Int × Unit) (fun J14 s h15 =>
              (fun (s33 : Int) =>
                iteP (decide (s33 < (t12.len : Int))) (
                  idxA t12.ptr t12.len s33 1 fun b16 o17 => 
                  ldI h15 b16 o17 .i64 fun t18 => 
                  bindI t18 fun id => 
                  derefP c fun b19 o20 => 
                  derefP c fun b21 o22 => 
                  ldM h15 b19 (o20 + 8) fun t23 => 
                  ldI h15 b21 (o22 + 1) .i64 fun t24 => 
                  mapGet (.int .i64) h15 t23 (Value.int .i64 id) fun r => asI (r.getD (Value.int .i64 0)) .i64 fun t25 => 
                  need (heldL h15 [(b21, o22 + 1, Value.int .i64 t24)]) <|
                  iteP (decide ((IntKind.wrap .i64 (at_ - t25)) ≥ t24)) (
                    f_client_Client_fall c id (fun h26 =>
                      J14 (IntKind.wrap .i64 (s33 + 1), ()) h26) h15) (
                    J14 (IntKind.wrap .i64 (s33 + 1), ()) h15)) (
                  f_client_Client_Ask_1 then_.1 then_.2.1 then_.2.2.1 then_.2.2.2.1 then_.2.2.2.2.1 (fun t27 h28 =>
                    bindI t27 fun t29 => 
                    K t29 h28) h15)) s.1) (0, ()) h13) h11))))

def m_client_Client_at__client_Client_Ask_1 (c : Option Addr) (at_ : Int) (then_ : Option Addr × Option Addr × Option Addr × Option Addr × Option Addr × Unit) (K : Int → Heap → Prop) (h : Heap) : Prop := g_client_Client_at__client_Client_Ask_1 m_client_Client_Waiting m_client_Client_fall m_client_Client_Ask_1 c at_ then_ K h

/-- (*client.Client).Ask -/
def g_client_Client_Ask (f_client_Client_at__client_Client_Ask_1 : (Option Addr) → Int → (Option Addr × Option Addr × Option Addr × Option Addr × Option Addr × Unit) → (Int → Heap → Prop) → Heap → Prop) (c : Option Addr) (at_ : Int) (r : Int × Int × Int × Int × ByteArray × Int × Unit) (K : Int → Bool → Int → Heap → Prop) (h : Heap) : Prop :=
  newC h [Value.pointer c] 24 fun b h1 => 
  newC h1 [Value.int .i64 at_] 3 fun b2 h3 => 
  newC h3 [Value.int .i64 r.1, Value.int .u8 r.2.1, Value.int .i64 r.2.2.1, Value.int .i64 r.2.2.2.1, Value.string r.2.2.2.2.1, Value.int .i64 r.2.2.2.2.2.1] 38 fun b4 h5 => 
  newC h5 [Value.int .i64 0] 3 fun b6 h7 => 
  newC h7 [Value.bool false] 4 fun b8 h9 => 
  bindI 0 fun e => 
  ldP h9 b 0 fun t => 
  ldI h9 b2 0 .i64 fun t10 => 
  f_client_Client_at__client_Client_Ask_1 t t10 (some ⟨b4, 0, none⟩, some ⟨b, 0, none⟩, some ⟨b8, 0, none⟩, some ⟨b6, 0, none⟩, some ⟨b2, 0, none⟩, ()) (fun t11 h12 =>
    bindI t11 fun e13 => 
    ldI h12 b6 0 .i64 fun t14 => 
    ldB h12 b8 0 fun t15 => 
    st h12 b6 0 (Value.int .i64 t14) fun h16 => 
    need (heldL h16 [(b8, 0, Value.bool t15)]) <|
    st h16 b8 0 (Value.bool t15) fun h17 => 
    bindI e13 fun e18 => 
    ldI h17 b6 0 .i64 fun t19 => ldB h17 b8 0 fun t20 => K t19 t20 e18 h17) h9

def m_client_Client_Ask (c : Option Addr) (at_ : Int) (r : Int × Int × Int × Int × ByteArray × Int × Unit) (K : Int → Bool → Int → Heap → Prop) (h : Heap) : Prop := g_client_Client_Ask m_client_Client_at__client_Client_Ask_1 c at_ r K h

/-- (*client.Client).Up$1 -/
def g_client_Client_Up_1 (f_client_Client_queue : (Option Addr) → (Int × Int × Int × Int × ByteArray × Int × Unit) → (Heap → Prop) → Heap → Prop) (a0 : Option Addr) (K : Int → Heap → Prop) (h : Heap) : Prop :=
  bindI 0 fun t => 
  derefP a0 fun b o => ldP h b o fun t1 => 
  derefP t1 fun b2 o3 => 
  ldB h b2 (o3 + 5) fun t4 => 
  iteP t4 (
    bindI 52 fun t5 => 
    K t5 h) (
    derefP a0 fun b6 o7 => ldP h b6 o7 fun t8 => 
    derefP a0 fun b9 o10 => ldP h b9 o10 fun t11 => 
    derefP a0 fun b12 o13 => ldP h b12 o13 fun t14 => 
    derefP t14 fun b15 o16 => 
    ldI h b15 (o16 + 1 + 1) .i64 fun t17 => 
    derefP t8 fun b18 o19 => 
    st h b18 (o19 + 5) (Value.bool true) fun h20 => 
    need (heldL h20 [(b12, o13, Value.pointer t14)]) <|
    need (heldL h20 [(b9, o10, Value.pointer t11)]) <|
    derefP t11 fun b21 o22 => 
    st h20 b21 (o22 + 12) (Value.int .i64 t17) fun h23 => 
    derefP a0 fun b24 o25 => ldP h23 b24 o25 fun t26 => 
    derefP a0 fun b27 o28 => ldP h23 b27 o28 fun t29 => 
    derefP t29 fun b30 o31 => 
    ldS h23 b30 (o31 + 4) fun t32 => 
    f_client_Client_queue t26 (0, 5, 0, 0, t32, 0, ()) (fun h33 =>
      need (heldL h33 [(b30, o31 + 4, Value.string t32)]) <|
      need (heldL h33 [(b27, o28, Value.pointer t29)]) <|
      bindI 0 fun t34 => 
      K t34 h33) h23)

def m_client_Client_Up_1 (a0 : Option Addr) (K : Int → Heap → Prop) (h : Heap) : Prop := g_client_Client_Up_1 m_client_Client_queue a0 K h

/-- (*client.Client).at -/
def g_client_Client_at__client_Client_Up_1 (f_client_Client_Waiting : (Option Addr) → (Sl → Heap → Prop) → Heap → Prop) (f_client_Client_fall : (Option Addr) → Int → (Heap → Prop) → Heap → Prop) (f_client_Client_Up_1 : (Option Addr) → (Int → Heap → Prop) → Heap → Prop) (c : Option Addr) (at_ : Int) (then_ : Option Addr × Unit) (K : Int → Heap → Prop) (h : Heap) : Prop :=
  bindI 0 fun t => 
  bindB c.isNone fun t1 => 
  iteP t1 (
    bindI 1 fun t2 => 
    K t2 h) (
    iteP (decide (at_ < 0)) (
      bindI 2 fun t3 => 
      K t3 h) (
      bindB (decide (at_ > 1152921504606846976)) fun t4 => 
      iteP t4 (
        bindI 2 fun t5 => 
        K t5 h) (
        derefP c fun b o => 
        ldI h b (o + 6) .i64 fun t6 => 
        bindB (decide (at_ < t6)) fun t7 => 
        iteP t7 (
          bindI 7 fun t8 => 
          K t8 h) (
          derefP c fun b9 o10 => 
          st h b9 (o10 + 6) (Value.int .i64 at_) fun h11 => 
          f_client_Client_Waiting c (fun t12 h13 =>
            loopM (σ := Int × Unit) (fun J14 s h15 =>
              (fun (s33 : Int) =>
                iteP (decide (s33 < (t12.len : Int))) (
                  idxA t12.ptr t12.len s33 1 fun b16 o17 => 
                  ldI h15 b16 o17 .i64 fun t18 => 
                  bindI t18 fun id => 
                  derefP c fun b19 o20 => 
                  derefP c fun b21 o22 => 
                  ldM h15 b19 (o20 + 8) fun t23 => 
                  ldI h15 b21 (o22 + 1) .i64 fun t24 => 
                  mapGet (.int .i64) h15 t23 (Value.int .i64 id) fun r => asI (r.getD (Value.int .i64 0)) .i64 fun t25 => 
                  need (heldL h15 [(b21, o22 + 1, Value.int .i64 t24)]) <|
                  iteP (decide ((IntKind.wrap .i64 (at_ - t25)) ≥ t24)) (
                    f_client_Client_fall c id (fun h26 =>
                      J14 (IntKind.wrap .i64 (s33 + 1), ()) h26) h15) (
                    J14 (IntKind.wrap .i64 (s33 + 1), ()) h15)) (
                  f_client_Client_Up_1 then_.1 (fun t27 h28 =>
                    bindI t27 fun t29 => 
                    K t29 h28) h15)) s.1) (0, ()) h13) h11))))

def m_client_Client_at__client_Client_Up_1 (c : Option Addr) (at_ : Int) (then_ : Option Addr × Unit) (K : Int → Heap → Prop) (h : Heap) : Prop := g_client_Client_at__client_Client_Up_1 m_client_Client_Waiting m_client_Client_fall m_client_Client_Up_1 c at_ then_ K h

/-- (*client.Client).Up -/
def g_client_Client_Up (f_client_Client_at__client_Client_Up_1 : (Option Addr) → Int → (Option Addr × Unit) → (Int → Heap → Prop) → Heap → Prop) (c : Option Addr) (at_ : Int) (K : Int → Heap → Prop) (h : Heap) : Prop :=
  newC h [Value.pointer c] 24 fun b h1 => 
  bindI 0 fun t => 
  ldP h1 b 0 fun t2 => 
  f_client_Client_at__client_Client_Up_1 t2 at_ (some ⟨b, 0, none⟩, ()) (fun t3 h4 =>
    bindI t3 fun t5 => 
    K t5 h4) h1

def m_client_Client_Up (c : Option Addr) (at_ : Int) (K : Int → Heap → Prop) (h : Heap) : Prop := g_client_Client_Up m_client_Client_at__client_Client_Up_1 c at_ K h

/-- (*client.Client).Tick$1 -/
def g_client_Client_Tick_1 (K : Int → Heap → Prop) (h : Heap) : Prop :=
  bindI 0 fun t => 
  bindI 0 fun t1 => 
  K t1 h

def m_client_Client_Tick_1 (K : Int → Heap → Prop) (h : Heap) : Prop := g_client_Client_Tick_1  K h

/-- (*client.Client).at -/
def g_client_Client_at__client_Client_Tick_1 (f_client_Client_Waiting : (Option Addr) → (Sl → Heap → Prop) → Heap → Prop) (f_client_Client_fall : (Option Addr) → Int → (Heap → Prop) → Heap → Prop) (f_client_Client_Tick_1 : (Int → Heap → Prop) → Heap → Prop) (c : Option Addr) (at_ : Int) (K : Int → Heap → Prop) (h : Heap) : Prop :=
  bindI 0 fun t => 
  bindB c.isNone fun t1 => 
  iteP t1 (
    bindI 1 fun t2 => 
    K t2 h) (
    iteP (decide (at_ < 0)) (
      bindI 2 fun t3 => 
      K t3 h) (
      bindB (decide (at_ > 1152921504606846976)) fun t4 => 
      iteP t4 (
        bindI 2 fun t5 => 
        K t5 h) (
        derefP c fun b o => 
        ldI h b (o + 6) .i64 fun t6 => 
        bindB (decide (at_ < t6)) fun t7 => 
        iteP t7 (
          bindI 7 fun t8 => 
          K t8 h) (
          derefP c fun b9 o10 => 
          st h b9 (o10 + 6) (Value.int .i64 at_) fun h11 => 
          f_client_Client_Waiting c (fun t12 h13 =>
            loopM (σ := Int × Unit) (fun J14 s h15 =>
              (fun (s33 : Int) =>
                iteP (decide (s33 < (t12.len : Int))) (
                  idxA t12.ptr t12.len s33 1 fun b16 o17 => 
                  ldI h15 b16 o17 .i64 fun t18 => 
                  bindI t18 fun id => 
                  derefP c fun b19 o20 => 
                  derefP c fun b21 o22 => 
                  ldM h15 b19 (o20 + 8) fun t23 => 
                  ldI h15 b21 (o22 + 1) .i64 fun t24 => 
                  mapGet (.int .i64) h15 t23 (Value.int .i64 id) fun r => asI (r.getD (Value.int .i64 0)) .i64 fun t25 => 
                  need (heldL h15 [(b21, o22 + 1, Value.int .i64 t24)]) <|
                  iteP (decide ((IntKind.wrap .i64 (at_ - t25)) ≥ t24)) (
                    f_client_Client_fall c id (fun h26 =>
                      J14 (IntKind.wrap .i64 (s33 + 1), ()) h26) h15) (
                    J14 (IntKind.wrap .i64 (s33 + 1), ()) h15)) (
                  f_client_Client_Tick_1 (fun t27 h28 =>
                    bindI t27 fun t29 => 
                    K t29 h28) h15)) s.1) (0, ()) h13) h11))))

def m_client_Client_at__client_Client_Tick_1 (c : Option Addr) (at_ : Int) (K : Int → Heap → Prop) (h : Heap) : Prop := g_client_Client_at__client_Client_Tick_1 m_client_Client_Waiting m_client_Client_fall m_client_Client_Tick_1 c at_ K h

/-- (*client.Client).Tick -/
def g_client_Client_Tick (f_client_Client_at__client_Client_Tick_1 : (Option Addr) → Int → (Int → Heap → Prop) → Heap → Prop) (c : Option Addr) (at_ : Int) (K : Int → Heap → Prop) (h : Heap) : Prop :=
  bindI 0 fun t => 
  f_client_Client_at__client_Client_Tick_1 c at_ (fun t1 h2 =>
    bindI t1 fun t3 => 
    K t3 h2) h

def m_client_Client_Tick (c : Option Addr) (at_ : Int) (K : Int → Heap → Prop) (h : Heap) : Prop := g_client_Client_Tick m_client_Client_at__client_Client_Tick_1 c at_ K h

/-- (*client.Client).Told -/
def g_client_Client_Told (c : Option Addr) (K : Sl → Heap → Prop) (h : Heap) : Prop :=
  iteP c.isNone (
    K ⟨none, 0, 0⟩ h) (
    derefP c fun b o => 
    ldL h b (o + 10) fun t => 
    derefP c fun b1 o2 => 
    st h b1 (o2 + 10) (Value.slice none 0 0) fun h3 => 
    K t h3)

def m_client_Client_Told (c : Option Addr) (K : Sl → Heap → Prop) (h : Heap) : Prop := g_client_Client_Told c K h

/-- (*client.Client).Connected -/
def g_client_Client_Connected (c : Option Addr) (K : Bool → Heap → Prop) (h : Heap) : Prop :=
  iteP c.isSome (
    derefP c fun b o => 
    ldB h b (o + 5) fun t => 
    bindB t fun t1 => 
    K t1 h) (
    K false h)

def m_client_Client_Connected (c : Option Addr) (K : Bool → Heap → Prop) (h : Heap) : Prop := g_client_Client_Connected c K h

/-- spillwaylaw21.live -/
def g_spillwaylaw21_live (f_client_New : (Int × Int × Int × Unit) → ByteArray → ((Option Addr) → Int → Heap → Prop) → Heap → Prop) (f_client_Client_Ask : (Option Addr) → Int → (Int × Int × Int × Int × ByteArray × Int × Unit) → (Int → Bool → Int → Heap → Prop) → Heap → Prop) (f_client_Client_Up : (Option Addr) → Int → (Int → Heap → Prop) → Heap → Prop) (f_client_Client_Tick : (Option Addr) → Int → (Int → Heap → Prop) → Heap → Prop) (f_client_Client_Told : (Option Addr) → (Sl → Heap → Prop) → Heap → Prop) (f_client_Client_Connected : (Option Addr) → (Bool → Heap → Prop) → Heap → Prop) (K : Bool → Heap → Prop) (h : Heap) : Prop :=
  f_client_New (1000, 10, 40, ()) (ByteArray.mk #[120]) (fun t t1 h2 =>
    bindI t1 fun e => 
    iteP (e != 0) (
      K false h2) (
      iteP t.isNone (
        K false h2) (
        f_client_Client_Ask t 0 (0, 1, 1, 1, ByteArray.mk #[], 0, ()) (fun t3 t4 t5 h6 =>
          bindI t3 fun _ => 
          bindB t4 fun a => 
          bindI t5 fun f => 
          f_client_Client_Up t 1 (fun t7 h8 =>
            bindI t7 fun g => 
            f_client_Client_Ask t 2 (0, 1, 1, 1, ByteArray.mk #[], 0, ()) (fun t9 t10 t11 h12 =>
              bindI t9 fun n => 
              bindB t10 fun b => 
              bindI t11 fun h13 => 
              f_client_Client_Tick t 1002 (fun t14 h15 =>
                f_client_Client_Told t (fun t16 h17 =>
                  iteP a (
                    iteP (f == 0) (
                      iteP (g == 0) (
                        iteP (n == 1) (
                          iteP (!b) (
                            iteP (h13 == 0) (
                              iteP ((t16.len : Int) == 1) (
                                idxA t16.ptr t16.len 0 7 fun b18 o => 
                                ldB h17 b18 (o + 6) fun t19 => 
                                iteP t19 (
                                  idxA t16.ptr t16.len 0 7 fun b20 o21 => 
                                  ldI h17 b20 o21 .i64 fun t22 => 
                                  iteP (t22 == 1) (
                                    f_client_Client_Connected t (fun t23 h24 =>
                                      bindB t23 fun t25 => 
                                      K t25 h24) h17) (
                                    K false h17)) (
                                  K false h17)) (
                                K false h17)) (
                              K false h17)) (
                            K false h17)) (
                          K false h17)) (
                        K false h17)) (
                      K false h17)) (
                    K false h17)) h15) h12) h8) h6) h2))) h

def m_spillwaylaw21_live (K : Bool → Heap → Prop) (h : Heap) : Prop := g_spillwaylaw21_live m_client_New m_client_Client_Ask m_client_Client_Up m_client_Client_Tick m_client_Client_Told m_client_Client_Connected  K h

/-- (*client.Client).Dial$1 -/
def g_client_Client_Dial_1 (a0 : Option Addr) (a1 : Option Addr) (a2 : Option Addr) (K : Int → Heap → Prop) (h : Heap) : Prop :=
  bindI 0 fun t => 
  derefP a0 fun b o => ldP h b o fun t1 => 
  derefP t1 fun b2 o3 => 
  ldB h b2 (o3 + 5) fun t4 => 
  iteP (!t4) (
    derefP a1 fun b5 o6 => ldI h b5 o6 .i64 fun t7 => 
    derefP a0 fun b8 o9 => ldP h b8 o9 fun t10 => 
    derefP t10 fun b11 o12 => 
    ldI h b11 (o12 + 11) .i64 fun t13 => 
    derefP a2 fun b14 o15 => st h b14 o15 (Value.bool (decide (t7 ≥ t13))) fun h16 => 
    bindI 0 fun t17 => 
    K t17 h16) (
    derefP a2 fun b18 o19 => st h b18 o19 (Value.bool false) fun h20 => 
    bindI 0 fun t21 => 
    K t21 h20)

def m_client_Client_Dial_1 (a0 : Option Addr) (a1 : Option Addr) (a2 : Option Addr) (K : Int → Heap → Prop) (h : Heap) : Prop := g_client_Client_Dial_1 a0 a1 a2 K h

/-- (*client.Client).at -/
def g_client_Client_at__client_Client_Dial_1 (f_client_Client_Waiting : (Option Addr) → (Sl → Heap → Prop) → Heap → Prop) (f_client_Client_fall : (Option Addr) → Int → (Heap → Prop) → Heap → Prop) (f_client_Client_Dial_1 : (Option Addr) → (Option Addr) → (Option Addr) → (Int → Heap → Prop) → Heap → Prop) (c : Option Addr) (at_ : Int) (then_ : Option Addr × Option Addr × Option Addr × Unit) (K : Int → Heap → Prop) (h : Heap) : Prop :=
  bindI 0 fun t => 
  bindB c.isNone fun t1 => 
  iteP t1 (
    bindI 1 fun t2 => 
    K t2 h) (
    iteP (decide (at_ < 0)) (
      bindI 2 fun t3 => 
      K t3 h) (
      bindB (decide (at_ > 1152921504606846976)) fun t4 => 
      iteP t4 (
        bindI 2 fun t5 => 
        K t5 h) (
        derefP c fun b o => 
        ldI h b (o + 6) .i64 fun t6 => 
        bindB (decide (at_ < t6)) fun t7 => 
        iteP t7 (
          bindI 7 fun t8 => 
          K t8 h) (
          derefP c fun b9 o10 => 
          st h b9 (o10 + 6) (Value.int .i64 at_) fun h11 => 
          f_client_Client_Waiting c (fun t12 h13 =>
            loopM (σ := Int × Unit) (fun J14 s h15 =>
              (fun (s33 : Int) =>
                iteP (decide (s33 < (t12.len : Int))) (
                  idxA t12.ptr t12.len s33 1 fun b16 o17 => 
                  ldI h15 b16 o17 .i64 fun t18 => 
                  bindI t18 fun id => 
                  derefP c fun b19 o20 => 
                  derefP c fun b21 o22 => 
                  ldM h15 b19 (o20 + 8) fun t23 => 
                  ldI h15 b21 (o22 + 1) .i64 fun t24 => 
                  mapGet (.int .i64) h15 t23 (Value.int .i64 id) fun r => asI (r.getD (Value.int .i64 0)) .i64 fun t25 => 
                  need (heldL h15 [(b21, o22 + 1, Value.int .i64 t24)]) <|
                  iteP (decide ((IntKind.wrap .i64 (at_ - t25)) ≥ t24)) (
                    f_client_Client_fall c id (fun h26 =>
                      J14 (IntKind.wrap .i64 (s33 + 1), ()) h26) h15) (
                    J14 (IntKind.wrap .i64 (s33 + 1), ()) h15)) (
                  f_client_Client_Dial_1 then_.1 then_.2.1 then_.2.2.1 (fun t27 h28 =>
                    bindI t27 fun t29 => 
                    K t29 h28) h15)) s.1) (0, ()) h13) h11))))

def m_client_Client_at__client_Client_Dial_1 (c : Option Addr) (at_ : Int) (then_ : Option Addr × Option Addr × Option Addr × Unit) (K : Int → Heap → Prop) (h : Heap) : Prop := g_client_Client_at__client_Client_Dial_1 m_client_Client_Waiting m_client_Client_fall m_client_Client_Dial_1 c at_ then_ K h

/-- (*client.Client).Dial -/
def g_client_Client_Dial (f_client_Client_at__client_Client_Dial_1 : (Option Addr) → Int → (Option Addr × Option Addr × Option Addr × Unit) → (Int → Heap → Prop) → Heap → Prop) (c : Option Addr) (at_ : Int) (K : Bool → Int → Heap → Prop) (h : Heap) : Prop :=
  newC h [Value.pointer c] 24 fun b h1 => 
  newC h1 [Value.int .i64 at_] 3 fun b2 h3 => 
  newC h3 [Value.bool false] 4 fun b4 h5 => 
  bindI 0 fun e => 
  ldP h5 b 0 fun t => 
  ldI h5 b2 0 .i64 fun t6 => 
  f_client_Client_at__client_Client_Dial_1 t t6 (some ⟨b, 0, none⟩, some ⟨b2, 0, none⟩, some ⟨b4, 0, none⟩, ()) (fun t7 h8 =>
    bindI t7 fun e9 => 
    ldB h8 b4 0 fun t10 => 
    st h8 b4 0 (Value.bool t10) fun h11 => 
    bindI e9 fun e12 => 
    ldB h11 b4 0 fun t13 => K t13 e12 h11) h5

def m_client_Client_Dial (c : Option Addr) (at_ : Int) (K : Bool → Int → Heap → Prop) (h : Heap) : Prop := g_client_Client_Dial m_client_Client_at__client_Client_Dial_1 c at_ K h

/-- (*client.Client).failed -/
def g_client_Client_failed (c : Option Addr) (K : Heap → Prop) (h : Heap) : Prop :=
  derefP c fun b o => 
  derefP c fun b1 o2 => 
  ldI h b (o + 6) .i64 fun t => 
  ldI h b1 (o2 + 12) .i64 fun t3 => 
  derefP c fun b4 o5 => 
  st h b4 (o5 + 11) (Value.int .i64 (IntKind.wrap .i64 (t + t3))) fun h6 => 
  derefP c fun b7 o8 => 
  derefP c fun b9 o10 => 
  ldI h6 b7 (o8 + 12) .i64 fun t11 => 
  ldI h6 b9 (o10 + 1 + 2) .i64 fun t12 => 
  derefP c fun b13 o14 => 
  st h6 b13 (o14 + 12) (Value.int .i64 (minV (IntKind.wrap .i64 ((2 : Int) * t11)) t12)) fun h15 => 
  K h15

def m_client_Client_failed (c : Option Addr) (K : Heap → Prop) (h : Heap) : Prop := g_client_Client_failed c K h

/-- (*client.Client).Refused$1 -/
def g_client_Client_Refused_1 (f_client_Client_failed : (Option Addr) → (Heap → Prop) → Heap → Prop) (a0 : Option Addr) (K : Int → Heap → Prop) (h : Heap) : Prop :=
  bindI 0 fun t => 
  derefP a0 fun b o => ldP h b o fun t1 => 
  derefP t1 fun b2 o3 => 
  ldB h b2 (o3 + 5) fun t4 => 
  iteP t4 (
    bindI 52 fun t5 => 
    K t5 h) (
    derefP a0 fun b6 o7 => ldP h b6 o7 fun t8 => 
    f_client_Client_failed t8 (fun h9 =>
      bindI 0 fun t10 => 
      K t10 h9) h)

def m_client_Client_Refused_1 (a0 : Option Addr) (K : Int → Heap → Prop) (h : Heap) : Prop := g_client_Client_Refused_1 m_client_Client_failed a0 K h

/-- (*client.Client).at -/
def g_client_Client_at__client_Client_Refused_1 (f_client_Client_Waiting : (Option Addr) → (Sl → Heap → Prop) → Heap → Prop) (f_client_Client_fall : (Option Addr) → Int → (Heap → Prop) → Heap → Prop) (f_client_Client_Refused_1 : (Option Addr) → (Int → Heap → Prop) → Heap → Prop) (c : Option Addr) (at_ : Int) (then_ : Option Addr × Unit) (K : Int → Heap → Prop) (h : Heap) : Prop :=
  bindI 0 fun t => 
  bindB c.isNone fun t1 => 
  iteP t1 (
    bindI 1 fun t2 => 
    K t2 h) (
    iteP (decide (at_ < 0)) (
      bindI 2 fun t3 => 
      K t3 h) (
      bindB (decide (at_ > 1152921504606846976)) fun t4 => 
      iteP t4 (
        bindI 2 fun t5 => 
        K t5 h) (
        derefP c fun b o => 
        ldI h b (o + 6) .i64 fun t6 => 
        bindB (decide (at_ < t6)) fun t7 => 
        iteP t7 (
          bindI 7 fun t8 => 
          K t8 h) (
          derefP c fun b9 o10 => 
          st h b9 (o10 + 6) (Value.int .i64 at_) fun h11 => 
          f_client_Client_Waiting c (fun t12 h13 =>
            loopM (σ := Int × Unit) (fun J14 s h15 =>
              (fun (s33 : Int) =>
                iteP (decide (s33 < (t12.len : Int))) (
                  idxA t12.ptr t12.len s33 1 fun b16 o17 => 
                  ldI h15 b16 o17 .i64 fun t18 => 
                  bindI t18 fun id => 
                  derefP c fun b19 o20 => 
                  derefP c fun b21 o22 => 
                  ldM h15 b19 (o20 + 8) fun t23 => 
                  ldI h15 b21 (o22 + 1) .i64 fun t24 => 
                  mapGet (.int .i64) h15 t23 (Value.int .i64 id) fun r => asI (r.getD (Value.int .i64 0)) .i64 fun t25 => 
                  need (heldL h15 [(b21, o22 + 1, Value.int .i64 t24)]) <|
                  iteP (decide ((IntKind.wrap .i64 (at_ - t25)) ≥ t24)) (
                    f_client_Client_fall c id (fun h26 =>
                      J14 (IntKind.wrap .i64 (s33 + 1), ()) h26) h15) (
                    J14 (IntKind.wrap .i64 (s33 + 1), ()) h15)) (
                  f_client_Client_Refused_1 then_.1 (fun t27 h28 =>
                    bindI t27 fun t29 => 
                    K t29 h28) h15)) s.1) (0, ()) h13) h11))))

def m_client_Client_at__client_Client_Refused_1 (c : Option Addr) (at_ : Int) (then_ : Option Addr × Unit) (K : Int → Heap → Prop) (h : Heap) : Prop := g_client_Client_at__client_Client_Refused_1 m_client_Client_Waiting m_client_Client_fall m_client_Client_Refused_1 c at_ then_ K h

/-- (*client.Client).Refused -/
def g_client_Client_Refused (f_client_Client_at__client_Client_Refused_1 : (Option Addr) → Int → (Option Addr × Unit) → (Int → Heap → Prop) → Heap → Prop) (c : Option Addr) (at_ : Int) (K : Int → Heap → Prop) (h : Heap) : Prop :=
  newC h [Value.pointer c] 24 fun b h1 => 
  bindI 0 fun t => 
  ldP h1 b 0 fun t2 => 
  f_client_Client_at__client_Client_Refused_1 t2 at_ (some ⟨b, 0, none⟩, ()) (fun t3 h4 =>
    bindI t3 fun t5 => 
    K t5 h4) h1

def m_client_Client_Refused (c : Option Addr) (at_ : Int) (K : Int → Heap → Prop) (h : Heap) : Prop := g_client_Client_Refused m_client_Client_at__client_Client_Refused_1 c at_ K h

/-- bytes.Clone -/
def g_bytes_Clone (b : Sl) (K : Sl → Heap → Prop) (h : Heap) : Prop :=
  iteP b.ptr.isNone (
    K ⟨none, 0, 0⟩ h) (
    newC h [] 5 fun b1 h2 => 
    rdS b 1 h2 fun new => app 5 1 1 [Value.int .u8 0] ⟨some ⟨b1, 0, none⟩, 0, 0⟩ b.len new h2 fun t h3 => 
    K t h3)

def m_bytes_Clone (b : Sl) (K : Sl → Heap → Prop) (h : Heap) : Prop := g_bytes_Clone b K h

/-- (*frame.Reader).Fork -/
def g_frame_Reader_Fork (f_bytes_Clone : Sl → (Sl → Heap → Prop) → Heap → Prop) (r : Option Addr) (K : (Option Addr) → Heap → Prop) (h : Heap) : Prop :=
  iteP r.isNone (
    K none h) (
    derefP r fun b o => 
    derefP r fun b1 o2 => 
    ldL h b o fun t => 
    ldB h b1 (o2 + 1) fun t3 => 
    f_bytes_Clone t (fun t4 h5 =>
      need (heldL h5 [(b1, o2 + 1, Value.bool t3)]) <|
      newC h5 [Value.slice t4.ptr t4.len t4.cap, Value.bool t3] 83 fun b6 h7 => 
      need (heldL h7 [(b1, o2 + 1, Value.bool t3)]) <|
      K (some ⟨b6, 0, none⟩) h7) h)

def m_frame_Reader_Fork (r : Option Addr) (K : (Option Addr) → Heap → Prop) (h : Heap) : Prop := g_frame_Reader_Fork m_bytes_Clone r K h

/-- maps.Clone[map[int]int,int,int] -/
def g_maps_Clone_map_int_int_int_int_ (m : Option Nat) (K : (Option Nat) → Heap → Prop) (h : Heap) : Prop :=
  iteP m.isNone (
    K none h) (
    cloneM (Value.iface 35 (Value.map m)) h fun t h1 => 
    asT t 35 fun y => asM y fun t2 => 
    K t2 h1)

def m_maps_Clone_map_int_int_int_int_ (m : Option Nat) (K : (Option Nat) → Heap → Prop) (h : Heap) : Prop := g_maps_Clone_map_int_int_int_int_ m K h

/-- slices.Clone[[]byte,byte] -/
def g_slices_Clone_byte_byte_ (s : Sl) (K : Sl → Heap → Prop) (h : Heap) : Prop :=
  iteP s.ptr.isNone (
    K ⟨none, 0, 0⟩ h) (
    newC h [] 5 fun b h1 => 
    rdS s 1 h1 fun new => app 5 1 1 [Value.int .u8 0] ⟨some ⟨b, 0, none⟩, 0, 0⟩ s.len new h1 fun t h2 => 
    K t h2)

def m_slices_Clone_byte_byte_ (s : Sl) (K : Sl → Heap → Prop) (h : Heap) : Prop := g_slices_Clone_byte_byte_ s K h

/-- slices.Clone[[]client.Told,client.Told] -/
def g_slices_Clone_client_Told_client_Told_ (s : Sl) (K : Sl → Heap → Prop) (h : Heap) : Prop :=
  iteP s.ptr.isNone (
    K ⟨none, 0, 0⟩ h) (
    newC h [] 52 fun b h1 => 
    rdS s 7 h1 fun new => app 52 7 56 [Value.int .i64 0, Value.int .i64 0, Value.int .u8 0, Value.int .i64 0, Value.int .i64 0, Value.int .i64 0, Value.bool false] ⟨some ⟨b, 0, none⟩, 0, 0⟩ s.len new h1 fun t h2 => 
    K t h2)

def m_slices_Clone_client_Told_client_Told_ (s : Sl) (K : Sl → Heap → Prop) (h : Heap) : Prop := g_slices_Clone_client_Told_client_Told_ s K h

/-- (*client.Client).Fork -/
def g_client_Client_Fork (f_frame_Reader_Fork : (Option Addr) → ((Option Addr) → Heap → Prop) → Heap → Prop) (f_maps_Clone_map_int_int_int_int_ : (Option Nat) → ((Option Nat) → Heap → Prop) → Heap → Prop) (f_slices_Clone_byte_byte_ : Sl → (Sl → Heap → Prop) → Heap → Prop) (f_slices_Clone_client_Told_client_Told_ : Sl → (Sl → Heap → Prop) → Heap → Prop) (c : Option Addr) (K : (Option Addr) → Heap → Prop) (h : Heap) : Prop :=
  iteP c.isNone (
    K none h) (
    derefP c fun b o => 
    ldP h b o fun t => ldI h b (o + 1) .i64 fun t1 => ldI h b (o + 2) .i64 fun t2 => ldI h b (o + 3) .i64 fun t3 => ldS h b (o + 4) fun t4 => ldB h b (o + 5) fun t5 => ldI h b (o + 6) .i64 fun t6 => ldI h b (o + 7) .i64 fun t7 => ldM h b (o + 8) fun t8 => ldL h b (o + 9) fun t9 => ldL h b (o + 10) fun t10 => ldI h b (o + 11) .i64 fun t11 => ldI h b (o + 12) .i64 fun t12 => 
    newC h [Value.pointer none, Value.int .i64 0, Value.int .i64 0, Value.int .i64 0, Value.string (ByteArray.mk #[]), Value.bool false, Value.int .i64 0, Value.int .i64 0, Value.map none, Value.slice none 0 0, Value.slice none 0 0, Value.int .i64 0, Value.int .i64 0] 63 fun b13 h14 => 
    sts h14 b13 0 [Value.pointer t, Value.int .i64 t1, Value.int .i64 t2, Value.int .i64 t3, Value.string t4, Value.bool t5, Value.int .i64 t6, Value.int .i64 t7, Value.map t8, Value.slice t9.ptr t9.len t9.cap, Value.slice t10.ptr t10.len t10.cap, Value.int .i64 t11, Value.int .i64 t12] fun h15 => 
    derefP c fun b16 o17 => 
    derefP c fun b18 o19 => 
    ldP h15 b16 o17 fun t20 => 
    ldM h15 b18 (o19 + 8) fun t21 => 
    f_frame_Reader_Fork t20 (fun t22 h23 =>
      need (heldL h23 [(b18, o19 + 8, Value.map t21)]) <|
      f_maps_Clone_map_int_int_int_int_ t21 (fun t24 h25 =>
        st h25 b13 0 (Value.pointer t22) fun h26 => 
        st h26 b13 (0 + 8) (Value.map t24) fun h27 => 
        derefP c fun b28 o29 => 
        derefP c fun b30 o31 => 
        ldL h27 b28 (o29 + 9) fun t32 => 
        ldL h27 b30 (o31 + 10) fun t33 => 
        f_slices_Clone_byte_byte_ t32 (fun t34 h35 =>
          need (heldL h35 [(b30, o31 + 10, Value.slice t33.ptr t33.len t33.cap)]) <|
          f_slices_Clone_client_Told_client_Told_ t33 (fun t36 h37 =>
            st h37 b13 (0 + 9) (Value.slice t34.ptr t34.len t34.cap) fun h38 => 
            st h38 b13 (0 + 10) (Value.slice t36.ptr t36.len t36.cap) fun h39 => 
            K (some ⟨b13, 0, none⟩) h39) h35) h27) h23) h15)

def m_client_Client_Fork (c : Option Addr) (K : (Option Addr) → Heap → Prop) (h : Heap) : Prop := g_client_Client_Fork m_frame_Reader_Fork m_maps_Clone_map_int_int_int_int_ m_slices_Clone_byte_byte_ m_slices_Clone_client_Told_client_Told_ c K h

/-- spillwaylaw21.ClientBacks -/
def g_spillwaylaw21_ClientBacks (f_client_New : (Int × Int × Int × Unit) → ByteArray → ((Option Addr) → Int → Heap → Prop) → Heap → Prop) (f_spillwaylaw21_live : (Bool → Heap → Prop) → Heap → Prop) (f_client_Client_Dial : (Option Addr) → Int → (Bool → Int → Heap → Prop) → Heap → Prop) (f_client_Client_Refused : (Option Addr) → Int → (Int → Heap → Prop) → Heap → Prop) (f_client_Client_Fork : (Option Addr) → ((Option Addr) → Heap → Prop) → Heap → Prop) (s : Int × Int × Int × Unit) (n : Int) (K : Bool → Heap → Prop) (h : Heap) : Prop :=
  newC h [Value.int .i64 s.1, Value.int .i64 s.2.1, Value.int .i64 s.2.2.1] 23 fun b h1 => 
  ldI h1 b 0 .i64 fun t => ldI h1 b (0 + 1) .i64 fun t2 => ldI h1 b (0 + 2) .i64 fun t3 => 
  f_client_New (t, t2, t3, ()) (ByteArray.mk #[120]) (fun t4 t5 h6 =>
    bindI t5 fun e => 
    iteP (e != 0) (
      f_spillwaylaw21_live (fun t7 h8 =>
        iteP t7 (
          bindB t4.isNone fun t9 => 
          K t9 h8) (
          K false h8)) h6) (
      bindI 0 fun at_ => 
      bindI 0 fun i => 
      loopM (σ := Int × Int × Unit) (fun J12 s13 h14 =>
        (fun (at_10 : Int) (i11 : Int) =>
          need ((12 : Int) ≠ 0) <| 
          iteP (decide (i11 < (Int.tmod (IntKind.wrap .i64 n) 12))) (
            f_client_Client_Dial t4 at_10 (fun t15 t16 h17 =>
              bindB t15 fun may => 
              bindI t16 fun e18 => 
              iteP (e18 != 0) (
                K false h17) (
                iteP (!may) (
                  K false h17) (
                  f_client_Client_Refused t4 at_10 (fun t19 h20 =>
                    iteP (t19 != 0) (
                      K false h20) (
                      ldI h20 b (0 + 1) .i64 fun t21 => 
                      f_client_Client_Fork t4 (fun t22 h23 =>
                        need (heldL h23 [(b, 0 + 1, Value.int .i64 t21)]) <|
                        f_client_Client_Dial t22 (IntKind.wrap .i64 ((IntKind.wrap .i64 (at_10 + t21)) - 1)) (fun t24 t25 h26 =>
                          need (heldL h26 [(b, 0 + 1, Value.int .i64 t21)]) <|
                          bindB t24 fun soon => 
                          bindI t25 fun _ => 
                          ldI h26 b (0 + 2) .i64 fun t27 => 
                          f_client_Client_Fork t4 (fun t28 h29 =>
                            need (heldL h29 [(b, 0 + 2, Value.int .i64 t27)]) <|
                            f_client_Client_Dial t28 (IntKind.wrap .i64 (at_10 + t27)) (fun t30 t31 h32 =>
                              need (heldL h32 [(b, 0 + 2, Value.int .i64 t27)]) <|
                              bindB t30 fun late => 
                              bindI t31 fun f => 
                              iteP soon (
                                K false h32) (
                                iteP (!late) (
                                  K false h32) (
                                  iteP (f != 0) (
                                    K false h32) (
                                    ldI h32 b (0 + 2) .i64 fun t33 => 
                                    bindI (IntKind.wrap .i64 (at_10 + t33)) fun at_34 => 
                                    bindI (IntKind.wrap .i64 (i11 + 1)) fun i35 => 
                                    J12 (at_34, i35, ()) h32)))) h29) h26) h23) h20)) h17))) h14) (
            f_spillwaylaw21_live (fun t36 h37 =>
              bindB t36 fun t38 => 
              K t38 h37) h14)) s13.1 s13.2.1) (at_, i, ()) h6)) h1

def m_spillwaylaw21_ClientBacks (s : Int × Int × Int × Unit) (n : Int) (K : Bool → Heap → Prop) (h : Heap) : Prop := g_spillwaylaw21_ClientBacks m_client_New m_spillwaylaw21_live m_client_Client_Dial m_client_Client_Refused m_client_Client_Fork s n K h

/-- (*frame.Reader).Reset -/
def g_frame_Reader_Reset (r : Option Addr) (K : Heap → Prop) (h : Heap) : Prop :=
  iteP r.isSome (
    derefP r fun b o => 
    st h b o (Value.slice none 0 0) fun h1 => 
    derefP r fun b2 o3 => 
    st h1 b2 (o3 + 1) (Value.bool false) fun h4 => 
    K h4) (
    K h)

def m_frame_Reader_Reset (r : Option Addr) (K : Heap → Prop) (h : Heap) : Prop := g_frame_Reader_Reset r K h

/-- (*client.Client).down -/
def g_client_Client_down (f_client_Client_Waiting : (Option Addr) → (Sl → Heap → Prop) → Heap → Prop) (f_client_Client_fall : (Option Addr) → Int → (Heap → Prop) → Heap → Prop) (f_frame_Reader_Reset : (Option Addr) → (Heap → Prop) → Heap → Prop) (f_client_Client_failed : (Option Addr) → (Heap → Prop) → Heap → Prop) (c : Option Addr) (K : Heap → Prop) (h : Heap) : Prop :=
  derefP c fun b o => 
  st h b (o + 5) (Value.bool false) fun h1 => 
  f_client_Client_Waiting c (fun t h2 =>
    loopM (σ := Int × Unit) (fun J3 s h4 =>
      (fun (s10 : Int) =>
        iteP (decide (s10 < (t.len : Int))) (
          idxA t.ptr t.len s10 1 fun b5 o6 => 
          ldI h4 b5 o6 .i64 fun t7 => 
          bindI t7 fun id => 
          f_client_Client_fall c id (fun h8 =>
            J3 (IntKind.wrap .i64 (s10 + 1), ()) h8) h4) (
          derefP c fun b9 o10 => 
          st h4 b9 (o10 + 9) (Value.slice none 0 0) fun h11 => 
          derefP c fun b12 o13 => 
          ldP h11 b12 o13 fun t14 => 
          f_frame_Reader_Reset t14 (fun h15 =>
            f_client_Client_failed c (fun h16 =>
              K h16) h15) h11)) s.1) (0, ()) h2) h1

def m_client_Client_down (c : Option Addr) (K : Heap → Prop) (h : Heap) : Prop := g_client_Client_down m_client_Client_Waiting m_client_Client_fall m_frame_Reader_Reset m_client_Client_failed c K h

/-- (*client.Client).Lost$1 -/
def g_client_Client_Lost_1 (f_client_Client_down : (Option Addr) → (Heap → Prop) → Heap → Prop) (a0 : Option Addr) (K : Int → Heap → Prop) (h : Heap) : Prop :=
  bindI 0 fun t => 
  derefP a0 fun b o => ldP h b o fun t1 => 
  derefP t1 fun b2 o3 => 
  ldB h b2 (o3 + 5) fun t4 => 
  iteP (!t4) (
    bindI 51 fun t5 => 
    K t5 h) (
    derefP a0 fun b6 o7 => ldP h b6 o7 fun t8 => 
    f_client_Client_down t8 (fun h9 =>
      bindI 0 fun t10 => 
      K t10 h9) h)

def m_client_Client_Lost_1 (a0 : Option Addr) (K : Int → Heap → Prop) (h : Heap) : Prop := g_client_Client_Lost_1 m_client_Client_down a0 K h

/-- (*client.Client).at -/
def g_client_Client_at__client_Client_Lost_1 (f_client_Client_Waiting : (Option Addr) → (Sl → Heap → Prop) → Heap → Prop) (f_client_Client_fall : (Option Addr) → Int → (Heap → Prop) → Heap → Prop) (f_client_Client_Lost_1 : (Option Addr) → (Int → Heap → Prop) → Heap → Prop) (c : Option Addr) (at_ : Int) (then_ : Option Addr × Unit) (K : Int → Heap → Prop) (h : Heap) : Prop :=
  bindI 0 fun t => 
  bindB c.isNone fun t1 => 
  iteP t1 (
    bindI 1 fun t2 => 
    K t2 h) (
    iteP (decide (at_ < 0)) (
      bindI 2 fun t3 => 
      K t3 h) (
      bindB (decide (at_ > 1152921504606846976)) fun t4 => 
      iteP t4 (
        bindI 2 fun t5 => 
        K t5 h) (
        derefP c fun b o => 
        ldI h b (o + 6) .i64 fun t6 => 
        bindB (decide (at_ < t6)) fun t7 => 
        iteP t7 (
          bindI 7 fun t8 => 
          K t8 h) (
          derefP c fun b9 o10 => 
          st h b9 (o10 + 6) (Value.int .i64 at_) fun h11 => 
          f_client_Client_Waiting c (fun t12 h13 =>
            loopM (σ := Int × Unit) (fun J14 s h15 =>
              (fun (s33 : Int) =>
                iteP (decide (s33 < (t12.len : Int))) (
                  idxA t12.ptr t12.len s33 1 fun b16 o17 => 
                  ldI h15 b16 o17 .i64 fun t18 => 
                  bindI t18 fun id => 
                  derefP c fun b19 o20 => 
                  derefP c fun b21 o22 => 
                  ldM h15 b19 (o20 + 8) fun t23 => 
                  ldI h15 b21 (o22 + 1) .i64 fun t24 => 
                  mapGet (.int .i64) h15 t23 (Value.int .i64 id) fun r => asI (r.getD (Value.int .i64 0)) .i64 fun t25 => 
                  need (heldL h15 [(b21, o22 + 1, Value.int .i64 t24)]) <|
                  iteP (decide ((IntKind.wrap .i64 (at_ - t25)) ≥ t24)) (
                    f_client_Client_fall c id (fun h26 =>
                      J14 (IntKind.wrap .i64 (s33 + 1), ()) h26) h15) (
                    J14 (IntKind.wrap .i64 (s33 + 1), ()) h15)) (
                  f_client_Client_Lost_1 then_.1 (fun t27 h28 =>
                    bindI t27 fun t29 => 
                    K t29 h28) h15)) s.1) (0, ()) h13) h11))))

def m_client_Client_at__client_Client_Lost_1 (c : Option Addr) (at_ : Int) (then_ : Option Addr × Unit) (K : Int → Heap → Prop) (h : Heap) : Prop := g_client_Client_at__client_Client_Lost_1 m_client_Client_Waiting m_client_Client_fall m_client_Client_Lost_1 c at_ then_ K h

/-- (*client.Client).Lost -/
def g_client_Client_Lost (f_client_Client_at__client_Client_Lost_1 : (Option Addr) → Int → (Option Addr × Unit) → (Int → Heap → Prop) → Heap → Prop) (c : Option Addr) (at_ : Int) (K : Int → Heap → Prop) (h : Heap) : Prop :=
  newC h [Value.pointer c] 24 fun b h1 => 
  bindI 0 fun t => 
  ldP h1 b 0 fun t2 => 
  f_client_Client_at__client_Client_Lost_1 t2 at_ (some ⟨b, 0, none⟩, ()) (fun t3 h4 =>
    bindI t3 fun t5 => 
    K t5 h4) h1

def m_client_Client_Lost (c : Option Addr) (at_ : Int) (K : Int → Heap → Prop) (h : Heap) : Prop := g_client_Client_Lost m_client_Client_at__client_Client_Lost_1 c at_ K h

/-- frame.length -/
def g_frame_length (b : Sl) (K : Int → Bool → Heap → Prop) (h : Heap) : Prop :=
  bindI 0 fun t => 
  bindI 0 fun n => 
  slc b.ptr b.cap 1 0 (minV 4 (b.len : Int)) b.cap fun t1 => 
  loopM (σ := Int × Int × Unit) (fun J3 s h4 =>
    (fun (n2 : Int) (s13 : Int) =>
      iteP (decide (s13 < (t1.len : Int))) (
        idxA t1.ptr t1.len s13 1 fun b5 o => 
        ldI h4 b5 o .u8 fun t6 => 
        bindI t6 fun c => 
        need (0 ≤ (8 : Int)) <| 
        bindI (orV .i64 (shlV .i64 n2 8) (IntKind.wrap .i64 c)) fun n7 => 
        J3 (n7, IntKind.wrap .i64 (s13 + 1), ()) h4) (
        cutP (σ := Unit) (fun s27 h28 =>
          iteP (decide (n2 ≥ 1)) (
            bindI n2 fun t29 => 
            bindB (decide (n2 ≤ 4096)) fun t30 => 
            K t29 t30 h28) (
            bindI n2 fun t31 => 
            K t31 false h28)) (fun J8 =>
          bindB ((b.len : Int) == 0) fun t9 => 
          iteP t9 (
            iteP t9 (
              bindI n2 fun t10 => 
              bindB (n2 == 0) fun t11 => 
              K t10 t11 h4) (
              bindB ((b.len : Int) == 3) fun t12 => 
              iteP t12 (
                bindI n2 fun t13 => 
                bindB (decide (n2 ≤ 16)) fun t14 => 
                K t13 t14 h4) (
                J8 (()) h4))) (
            bindB ((b.len : Int) == 1) fun t15 => 
            iteP t15 (
              iteP t15 (
                bindI n2 fun t16 => 
                bindB (n2 == 0) fun t17 => 
                K t16 t17 h4) (
                bindB ((b.len : Int) == 3) fun t18 => 
                iteP t18 (
                  bindI n2 fun t19 => 
                  bindB (decide (n2 ≤ 16)) fun t20 => 
                  K t19 t20 h4) (
                  J8 (()) h4))) (
              bindB ((b.len : Int) == 2) fun t21 => 
              iteP t21 (
                bindI n2 fun t22 => 
                bindB (n2 == 0) fun t23 => 
                K t22 t23 h4) (
                bindB ((b.len : Int) == 3) fun t24 => 
                iteP t24 (
                  bindI n2 fun t25 => 
                  bindB (decide (n2 ≤ 16)) fun t26 => 
                  K t25 t26 h4) (
                  J8 (()) h4))))))) s.1 s.2.1) (n, 0, ()) h

def m_frame_length (b : Sl) (K : Int → Bool → Heap → Prop) (h : Heap) : Prop := g_frame_length b K h

/-- (*frame.Reader).Put -/
def g_frame_Reader_Put (f_bytes_Clone : Sl → (Sl → Heap → Prop) → Heap → Prop) (f_frame_length : Sl → (Int → Bool → Heap → Prop) → Heap → Prop) (r : Option Addr) (b : Sl) (K : Sl → Int → Heap → Prop) (h : Heap) : Prop :=
  bindI 0 fun t => 
  bindB r.isNone fun t1 => 
  iteP t1 (
    bindI 1 fun t2 => 
    K ⟨none, 0, 0⟩ t2 h) (
    derefP r fun b3 o => 
    ldB h b3 (o + 1) fun t4 => 
    bindB t4 fun t5 => 
    iteP t5 (
      bindI 50 fun t6 => 
      K ⟨none, 0, 0⟩ t6 h) (
      derefP r fun b7 o8 => 
      ldL h b7 o8 fun t9 => 
      f_bytes_Clone t9 (fun t10 h11 =>
        rdS b 1 h11 fun new => app 5 1 1 [Value.int .u8 0] t10 b.len new h11 fun t12 h13 => 
        cutP (σ := Sl × Sl × Unit) (fun s38 h39 =>
          (fun (all36 : Sl) (out37 : Sl) =>
            derefP r fun b40 o41 => 
            st h39 b40 o41 (Value.slice all36.ptr all36.len all36.cap) fun h42 => 
            bindI 0 fun t43 => 
            K out37 t43 h42) s38.1 s38.2.1) (fun J14 =>
          loopM (σ := Sl × Sl × Unit) (fun J15 s h16 =>
            (fun (all : Sl) (out : Sl) =>
              iteP (decide ((all.len : Int) ≥ 4)) (
                f_frame_length all (fun t17 t18 h19 =>
                  bindI t17 fun n => 
                  bindB t18 fun ok => 
                  iteP (!ok) (
                    derefP r fun b20 o21 => 
                    st h19 b20 o21 (Value.slice none 0 0) fun h22 => 
                    derefP r fun b23 o24 => 
                    st h22 b23 (o24 + 1) (Value.bool true) fun h25 => 
                    bindI 50 fun t26 => 
                    K out t26 h25) (
                    iteP (decide ((IntKind.wrap .i64 ((all.len : Int) - 4)) < n)) (
                      J14 (all, out, ()) h19) (
                      slc all.ptr all.cap 1 4 (IntKind.wrap .i64 ((4 : Int) + n)) all.cap fun t27 => 
                      f_bytes_Clone t27 (fun t28 h29 =>
                        newC h29 [Value.slice t28.ptr t28.len t28.cap] 39 fun b30 h31 => 
                        rdS ⟨some ⟨b30, 0, none⟩, 1, 1⟩ 1 h31 fun new34 => app 39 1 24 [Value.slice none 0 0] out 1 new34 h31 fun t32 h33 => 
                        slc all.ptr all.cap 1 (IntKind.wrap .i64 ((4 : Int) + n)) all.len all.cap fun t35 => 
                        J15 (t35, t32, ()) h33) h19))) h16) (
                J14 (all, out, ()) h16)) s.1 s.2.1) (t12, ⟨none, 0, 0⟩, ()) h13)) h))

def m_frame_Reader_Put (r : Option Addr) (b : Sl) (K : Sl → Int → Heap → Prop) (h : Heap) : Prop := g_frame_Reader_Put m_bytes_Clone m_frame_length r b K h

/-- (*proto.reader).take -/
def g_proto_reader_take (r : Option Addr) (n : Int) (K : Sl → Heap → Prop) (h : Heap) : Prop :=
  cutP (σ := Unit) (fun s h20 =>
    derefP r fun b21 o22 => 
    ldI h20 b21 (o22 + 1) .i64 fun t23 => 
    derefP r fun b24 o25 => 
    st h20 b24 (o25 + 1) (Value.int .i64 (IntKind.wrap .i64 (t23 + n))) fun h26 => 
    derefP r fun b27 o28 => 
    ldL h26 b27 o28 fun t29 => 
    derefP r fun b30 o31 => 
    ldI h26 b30 (o31 + 1) .i64 fun t32 => 
    derefP r fun b33 o34 => 
    ldI h26 b33 (o34 + 1) .i64 fun t35 => 
    slc t29.ptr t29.cap 1 (IntKind.wrap .i64 (t32 - n)) t35 t29.cap fun t36 => 
    K t36 h26) (fun J1 =>
    derefP r fun b o => 
    ldB h b (o + 2) fun t => 
    iteP t (
      derefP r fun b2 o3 => 
      st h b2 (o3 + 2) (Value.bool true) fun h4 => 
      derefP r fun b5 o6 => 
      ldB h4 b5 (o6 + 2) fun t7 => 
      iteP t7 (
        K ⟨none, 0, 0⟩ h4) (
        J1 (()) h4)) (
      derefP r fun b8 o9 => 
      derefP r fun b10 o11 => 
      ldL h b8 o9 fun t12 => 
      ldI h b10 (o11 + 1) .i64 fun t13 => 
      derefP r fun b14 o15 => 
      st h b14 (o15 + 2) (Value.bool (decide ((IntKind.wrap .i64 ((t12.len : Int) - t13)) < n))) fun h16 => 
      derefP r fun b17 o18 => 
      ldB h16 b17 (o18 + 2) fun t19 => 
      iteP t19 (
        K ⟨none, 0, 0⟩ h16) (
        J1 (()) h16)))

def m_proto_reader_take (r : Option Addr) (n : Int) (K : Sl → Heap → Prop) (h : Heap) : Prop := g_proto_reader_take r n K h

/-- (*proto.reader).number -/
def g_proto_reader_number (f_proto_reader_take : (Option Addr) → Int → (Sl → Heap → Prop) → Heap → Prop) (r : Option Addr) (bytes : Int) (K : Int → Heap → Prop) (h : Heap) : Prop :=
  bindI 0 fun t => 
  bindI 0 fun n => 
  f_proto_reader_take r bytes (fun t1 h2 =>
    loopM (σ := Int × Int × Unit) (fun J4 s h5 =>
      (fun (n3 : Int) (s12 : Int) =>
        iteP (decide (s12 < (t1.len : Int))) (
          idxA t1.ptr t1.len s12 1 fun b o => 
          ldI h5 b o .u8 fun t6 => 
          bindI t6 fun c => 
          need (0 ≤ (8 : Int)) <| 
          bindI (orV .u64 (shlV .u64 n3 8) (IntKind.wrap .u64 c)) fun n7 => 
          J4 (n7, IntKind.wrap .i64 (s12 + 1), ()) h5) (
          bindI (IntKind.wrap .i64 n3) fun t8 => 
          K t8 h5)) s.1 s.2.1) (n, 0, ()) h2) h

def m_proto_reader_number (r : Option Addr) (bytes : Int) (K : Int → Heap → Prop) (h : Heap) : Prop := g_proto_reader_number m_proto_reader_take r bytes K h

/-- proto.RightAnswer -/
def g_proto_RightAnswer (f_proto_from : Int → Int → Int → (Bool → Heap → Prop) → Heap → Prop) (a : Int × Int × Int × Int × Int × Unit) (K : Bool → Heap → Prop) (h : Heap) : Prop :=
  newC h [Value.int .i64 a.1, Value.int .u8 a.2.1, Value.int .i64 a.2.2.1, Value.int .i64 a.2.2.2.1, Value.int .i64 a.2.2.2.2.1] 50 fun b h1 => 
  ldI h1 b 0 .i64 fun t => 
  f_proto_from t 0 2147483647 (fun t2 h3 =>
    iteP t2 (
      ldI h3 b (0 + 1) .u8 fun t4 => 
      iteP (decide (t4 ≥ 1)) (
        ldI h3 b (0 + 1) .u8 fun t5 => 
        iteP (decide (t5 ≤ 8)) (
          ldI h3 b (0 + 2) .i64 fun t6 => 
          f_proto_from t6 0 1099511627776 (fun t7 h8 =>
            iteP t7 (
              ldI h8 b (0 + 3) .i64 fun t9 => 
              f_proto_from t9 0 1099511627776 (fun t10 h11 =>
                iteP t10 (
                  ldI h11 b (0 + 4) .i64 fun t12 => 
                  f_proto_from t12 0 2147483647 (fun t13 h14 =>
                    bindB t13 fun t15 => 
                    K t15 h14) h11) (
                  K false h11)) h8) (
              K false h8)) h3) (
          K false h3)) (
        K false h3)) (
      K false h3)) h1

def m_proto_RightAnswer (a : Int × Int × Int × Int × Int × Unit) (K : Bool → Heap → Prop) (h : Heap) : Prop := g_proto_RightAnswer m_proto_from a K h

/-- (*proto.reader).ended -/
def g_proto_reader_ended (r : Option Addr) (right : Bool) (K : Int → Int → Heap → Prop) (h : Heap) : Prop :=
  bindI 0 fun t => 
  bindI 0 fun t1 => 
  derefP r fun b o => 
  ldB h b (o + 2) fun t2 => 
  bindB t2 fun t3 => 
  iteP t3 (
    derefP r fun b4 o5 => 
    ldL h b4 o5 fun t6 => 
    bindI 6 fun t7 => 
    bindI (t6.len : Int) fun t8 => 
    K t7 t8 h) (
    derefP r fun b9 o10 => 
    ldI h b9 (o10 + 1) .i64 fun t11 => 
    derefP r fun b12 o13 => 
    ldL h b12 o13 fun t14 => 
    bindB (decide (t11 < (t14.len : Int))) fun t15 => 
    iteP t15 (
      derefP r fun b16 o17 => 
      ldI h b16 (o17 + 1) .i64 fun t18 => 
      bindI 6 fun t19 => 
      bindI t18 fun t20 => 
      K t19 t20 h) (
      bindB (!right) fun t21 => 
      iteP t21 (
        bindI 6 fun t22 => 
        bindI 0 fun t23 => 
        K t22 t23 h) (
        bindI 0 fun t24 => 
        bindI 0 fun t25 => 
        K t24 t25 h)))

def m_proto_reader_ended (r : Option Addr) (right : Bool) (K : Int → Int → Heap → Prop) (h : Heap) : Prop := g_proto_reader_ended r right K h

/-- proto.ReadAnswer -/
def g_proto_ReadAnswer (f_proto_reader_number : (Option Addr) → Int → (Int → Heap → Prop) → Heap → Prop) (f_proto_RightAnswer : (Int × Int × Int × Int × Int × Unit) → (Bool → Heap → Prop) → Heap → Prop) (f_proto_reader_ended : (Option Addr) → Bool → (Int → Int → Heap → Prop) → Heap → Prop) (b : Sl) (K : (Int × Int × Int × Int × Int × Unit) → Int → Int → Heap → Prop) (h : Heap) : Prop :=
  newC h [Value.int .i64 0, Value.int .u8 0, Value.int .i64 0, Value.int .i64 0, Value.int .i64 0] 50 fun b1 h2 => 
  bindI 0 fun t => 
  bindI 0 fun t3 => 
  newC h2 [Value.slice b.ptr b.len b.cap, Value.int .i64 0, Value.bool false] 93 fun b4 h5 => 
  f_proto_reader_number (some ⟨b4, 0, none⟩) 1 (fun t6 h7 =>
    f_proto_reader_number (some ⟨b4, 0, none⟩) 8 (fun t8 h9 =>
      f_proto_reader_number (some ⟨b4, 0, none⟩) 8 (fun t10 h11 =>
        f_proto_reader_number (some ⟨b4, 0, none⟩) 8 (fun t12 h13 =>
          f_proto_reader_number (some ⟨b4, 0, none⟩) 8 (fun t14 h15 =>
            newC h15 [Value.int .i64 0, Value.int .u8 0, Value.int .i64 0, Value.int .i64 0, Value.int .i64 0] 50 fun b16 h17 => 
            sts h17 b16 0 [Value.int .i64 t8, Value.int .u8 (IntKind.wrap .u8 t6), Value.int .i64 t10, Value.int .i64 t12, Value.int .i64 t14] fun h18 => 
            ldI h18 b16 0 .i64 fun t19 => ldI h18 b16 (0 + 1) .u8 fun t20 => ldI h18 b16 (0 + 2) .i64 fun t21 => ldI h18 b16 (0 + 3) .i64 fun t22 => ldI h18 b16 (0 + 4) .i64 fun t23 => 
            f_proto_RightAnswer (t19, t20, t21, t22, t23, ()) (fun t24 h25 =>
              f_proto_reader_ended (some ⟨b4, 0, none⟩) t24 (fun t26 t27 h28 =>
                bindI t26 fun err => 
                bindI t27 fun at_ => 
                iteP (err != 0) (
                  sts h28 b1 0 [Value.int .i64 0, Value.int .u8 0, Value.int .i64 0, Value.int .i64 0, Value.int .i64 0] fun h29 => 
                  bindI err fun t30 => 
                  bindI at_ fun t31 => 
                  ldI h29 b1 0 .i64 fun t32 => ldI h29 b1 (0 + 1) .u8 fun t33 => ldI h29 b1 (0 + 2) .i64 fun t34 => ldI h29 b1 (0 + 3) .i64 fun t35 => ldI h29 b1 (0 + 4) .i64 fun t36 => K (t32, t33, t34, t35, t36, ()) t30 t31 h29) (
                  ldI h28 b16 0 .i64 fun t37 => ldI h28 b16 (0 + 1) .u8 fun t38 => ldI h28 b16 (0 + 2) .i64 fun t39 => ldI h28 b16 (0 + 3) .i64 fun t40 => ldI h28 b16 (0 + 4) .i64 fun t41 => 
                  sts h28 b1 0 [Value.int .i64 t37, Value.int .u8 t38, Value.int .i64 t39, Value.int .i64 t40, Value.int .i64 t41] fun h42 => 
                  bindI 0 fun t43 => 
                  bindI 0 fun t44 => 
                  ldI h42 b1 0 .i64 fun t45 => ldI h42 b1 (0 + 1) .u8 fun t46 => ldI h42 b1 (0 + 2) .i64 fun t47 => ldI h42 b1 (0 + 3) .i64 fun t48 => ldI h42 b1 (0 + 4) .i64 fun t49 => K (t45, t46, t47, t48, t49, ()) t43 t44 h42)) h25) h18) h13) h11) h9) h7) h5

def m_proto_ReadAnswer (b : Sl) (K : (Int × Int × Int × Int × Int × Unit) → Int → Int → Heap → Prop) (h : Heap) : Prop := g_proto_ReadAnswer m_proto_reader_number m_proto_RightAnswer m_proto_reader_ended b K h

/-- (*client.Client).answered -/
def g_client_Client_answered (c : Option Addr) (a : Int × Int × Int × Int × Int × Unit) (K : Heap → Prop) (h : Heap) : Prop :=
  newC h [Value.int .i64 a.1, Value.int .u8 a.2.1, Value.int .i64 a.2.2.1, Value.int .i64 a.2.2.2.1, Value.int .i64 a.2.2.2.2.1] 50 fun b h1 => 
  derefP c fun b2 o => 
  ldM h1 b2 (o + 8) fun t => 
  ldI h1 b 0 .i64 fun t3 => 
  mapGet (.int .i64) h1 t (Value.int .i64 t3) fun r => asI (r.getD (Value.int .i64 0)) .i64 fun t4 => 
  bindI t4 fun _ => 
  bindB r.isSome fun waits => 
  iteP waits (
    derefP c fun b5 o6 => 
    ldM h1 b5 (o6 + 8) fun t7 => 
    ldI h1 b 0 .i64 fun t8 => 
    mapDel (.int .i64) h1 t7 (Value.int .i64 t8) fun h9 => 
    derefP c fun b10 o11 => 
    ldL h9 b10 (o11 + 10) fun t12 => 
    ldI h9 b 0 .i64 fun t13 => 
    ldI h9 b 0 .i64 fun t14 => ldI h9 b (0 + 1) .u8 fun t15 => ldI h9 b (0 + 2) .i64 fun t16 => ldI h9 b (0 + 3) .i64 fun t17 => ldI h9 b (0 + 4) .i64 fun t18 => 
    newC h9 [Value.int .i64 t13, Value.int .i64 t14, Value.int .u8 t15, Value.int .i64 t16, Value.int .i64 t17, Value.int .i64 t18, Value.bool false] 52 fun b19 h20 => 
    need (heldL h20 [(b, 0, Value.int .i64 t14), (b, 0 + 1, Value.int .u8 t15), (b, 0 + 2, Value.int .i64 t16), (b, 0 + 3, Value.int .i64 t17), (b, 0 + 4, Value.int .i64 t18)]) <|
    need (heldL h20 [(b, 0, Value.int .i64 t13)]) <|
    need (heldL h20 [(b10, o11 + 10, Value.slice t12.ptr t12.len t12.cap)]) <|
    rdS ⟨some ⟨b19, 0, none⟩, 1, 1⟩ 7 h20 fun new => app 52 7 56 [Value.int .i64 0, Value.int .i64 0, Value.int .u8 0, Value.int .i64 0, Value.int .i64 0, Value.int .i64 0, Value.bool false] t12 1 new h20 fun t21 h22 => 
    need (heldL h22 [(b, 0, Value.int .i64 t14), (b, 0 + 1, Value.int .u8 t15), (b, 0 + 2, Value.int .i64 t16), (b, 0 + 3, Value.int .i64 t17), (b, 0 + 4, Value.int .i64 t18)]) <|
    need (heldL h22 [(b, 0, Value.int .i64 t13)]) <|
    derefP c fun b23 o24 => 
    st h22 b23 (o24 + 10) (Value.slice t21.ptr t21.len t21.cap) fun h25 => 
    K h25) (
    K h1)

def m_client_Client_answered (c : Option Addr) (a : Int × Int × Int × Int × Int × Unit) (K : Heap → Prop) (h : Heap) : Prop := g_client_Client_answered c a K h

/-- (*client.Client).Bytes$1 -/
def g_client_Client_Bytes_1 (f_frame_Reader_Put : (Option Addr) → Sl → (Sl → Int → Heap → Prop) → Heap → Prop) (f_proto_ReadAnswer : Sl → ((Int × Int × Int × Int × Int × Unit) → Int → Int → Heap → Prop) → Heap → Prop) (f_client_Client_answered : (Option Addr) → (Int × Int × Int × Int × Int × Unit) → (Heap → Prop) → Heap → Prop) (f_client_Client_down : (Option Addr) → (Heap → Prop) → Heap → Prop) (a0 : Option Addr) (a1 : Option Addr) (K : Int → Heap → Prop) (h : Heap) : Prop :=
  bindI 0 fun t => 
  derefP a0 fun b o => ldP h b o fun t1 => 
  derefP t1 fun b2 o3 => 
  ldB h b2 (o3 + 5) fun t4 => 
  iteP (!t4) (
    bindI 51 fun t5 => 
    K t5 h) (
    derefP a0 fun b6 o7 => ldP h b6 o7 fun t8 => 
    derefP t8 fun b9 o10 => 
    ldP h b9 o10 fun t11 => 
    derefP a1 fun b12 o13 => ldL h b12 o13 fun t14 => 
    f_frame_Reader_Put t11 t14 (fun t15 t16 h17 =>
      need (heldL h17 [(b6, o7, Value.pointer t8)]) <|
      bindI t16 fun err => 
      cutP (σ := Int × Unit) (fun s43 h44 =>
        (fun (err42 : Int) =>
          iteP (err42 != 0) (
            derefP a0 fun b45 o46 => ldP h44 b45 o46 fun t47 => 
            f_client_Client_down t47 (fun h48 =>
              bindI err42 fun t49 => 
              K t49 h48) h44) (
            bindI err42 fun t50 => 
            K t50 h44)) s43.1) (fun J18 =>
        loopM (σ := Int × Int × Unit) (fun J20 s h21 =>
          (fun (err19 : Int) (s26 : Int) =>
            iteP (decide (s26 < (t15.len : Int))) (
              idxA t15.ptr t15.len s26 1 fun b22 o23 => 
              ldL h21 b22 o23 fun t24 => 
              f_proto_ReadAnswer t24 (fun t25 t26 t27 h28 =>
                newC h28 [Value.int .i64 0, Value.int .u8 0, Value.int .i64 0, Value.int .i64 0, Value.int .i64 0] 50 fun b29 h30 => 
                sts h30 b29 0 [Value.int .i64 t25.1, Value.int .u8 t25.2.1, Value.int .i64 t25.2.2.1, Value.int .i64 t25.2.2.2.1, Value.int .i64 t25.2.2.2.2.1] fun h31 => 
                bindI t26 fun wrong => 
                bindI t27 fun _ => 
                iteP (wrong != 0) (
                  bindI 50 fun err32 => 
                  J18 (err32, ()) h31) (
                  derefP a0 fun b33 o34 => ldP h31 b33 o34 fun t35 => 
                  ldI h31 b29 0 .i64 fun t36 => ldI h31 b29 (0 + 1) .u8 fun t37 => ldI h31 b29 (0 + 2) .i64 fun t38 => ldI h31 b29 (0 + 3) .i64 fun t39 => ldI h31 b29 (0 + 4) .i64 fun t40 => 
                  f_client_Client_answered t35 (t36, t37, t38, t39, t40, ()) (fun h41 =>
                    J20 (err19, IntKind.wrap .i64 (s26 + 1), ()) h41) h31)) h21) (
              J18 (err19, ()) h21)) s.1 s.2.1) (err, 0, ()) h17)) h)

def m_client_Client_Bytes_1 (a0 : Option Addr) (a1 : Option Addr) (K : Int → Heap → Prop) (h : Heap) : Prop := g_client_Client_Bytes_1 m_frame_Reader_Put m_proto_ReadAnswer m_client_Client_answered m_client_Client_down a0 a1 K h

/-- (*client.Client).at -/
def g_client_Client_at__client_Client_Bytes_1 (f_client_Client_Waiting : (Option Addr) → (Sl → Heap → Prop) → Heap → Prop) (f_client_Client_fall : (Option Addr) → Int → (Heap → Prop) → Heap → Prop) (f_client_Client_Bytes_1 : (Option Addr) → (Option Addr) → (Int → Heap → Prop) → Heap → Prop) (c : Option Addr) (at_ : Int) (then_ : Option Addr × Option Addr × Unit) (K : Int → Heap → Prop) (h : Heap) : Prop :=
  bindI 0 fun t => 
  bindB c.isNone fun t1 => 
  iteP t1 (
    bindI 1 fun t2 => 
    K t2 h) (
    iteP (decide (at_ < 0)) (
      bindI 2 fun t3 => 
      K t3 h) (
      bindB (decide (at_ > 1152921504606846976)) fun t4 => 
      iteP t4 (
        bindI 2 fun t5 => 
        K t5 h) (
        derefP c fun b o => 
        ldI h b (o + 6) .i64 fun t6 => 
        bindB (decide (at_ < t6)) fun t7 => 
        iteP t7 (
          bindI 7 fun t8 => 
          K t8 h) (
          derefP c fun b9 o10 => 
          st h b9 (o10 + 6) (Value.int .i64 at_) fun h11 => 
          f_client_Client_Waiting c (fun t12 h13 =>
            loopM (σ := Int × Unit) (fun J14 s h15 =>
              (fun (s33 : Int) =>
                iteP (decide (s33 < (t12.len : Int))) (
                  idxA t12.ptr t12.len s33 1 fun b16 o17 => 
                  ldI h15 b16 o17 .i64 fun t18 => 
                  bindI t18 fun id => 
                  derefP c fun b19 o20 => 
                  derefP c fun b21 o22 => 
                  ldM h15 b19 (o20 + 8) fun t23 => 
                  ldI h15 b21 (o22 + 1) .i64 fun t24 => 
                  mapGet (.int .i64) h15 t23 (Value.int .i64 id) fun r => asI (r.getD (Value.int .i64 0)) .i64 fun t25 => 
                  need (heldL h15 [(b21, o22 + 1, Value.int .i64 t24)]) <|
                  iteP (decide ((IntKind.wrap .i64 (at_ - t25)) ≥ t24)) (
                    f_client_Client_fall c id (fun h26 =>
                      J14 (IntKind.wrap .i64 (s33 + 1), ()) h26) h15) (
                    J14 (IntKind.wrap .i64 (s33 + 1), ()) h15)) (
                  f_client_Client_Bytes_1 then_.1 then_.2.1 (fun t27 h28 =>
                    bindI t27 fun t29 => 
                    K t29 h28) h15)) s.1) (0, ()) h13) h11))))

def m_client_Client_at__client_Client_Bytes_1 (c : Option Addr) (at_ : Int) (then_ : Option Addr × Option Addr × Unit) (K : Int → Heap → Prop) (h : Heap) : Prop := g_client_Client_at__client_Client_Bytes_1 m_client_Client_Waiting m_client_Client_fall m_client_Client_Bytes_1 c at_ then_ K h

/-- (*client.Client).Bytes -/
def g_client_Client_Bytes (f_client_Client_at__client_Client_Bytes_1 : (Option Addr) → Int → (Option Addr × Option Addr × Unit) → (Int → Heap → Prop) → Heap → Prop) (c : Option Addr) (at_ : Int) (b : Sl) (K : Int → Heap → Prop) (h : Heap) : Prop :=
  newC h [Value.pointer c] 24 fun b1 h2 => 
  newC h2 [Value.slice b.ptr b.len b.cap] 39 fun b3 h4 => 
  bindI 0 fun t => 
  ldP h4 b1 0 fun t5 => 
  f_client_Client_at__client_Client_Bytes_1 t5 at_ (some ⟨b1, 0, none⟩, some ⟨b3, 0, none⟩, ()) (fun t6 h7 =>
    bindI t6 fun t8 => 
    K t8 h7) h4

def m_client_Client_Bytes (c : Option Addr) (at_ : Int) (b : Sl) (K : Int → Heap → Prop) (h : Heap) : Prop := g_client_Client_Bytes m_client_Client_at__client_Client_Bytes_1 c at_ b K h

/-- (*client.Client).Send -/
def g_client_Client_Send (c : Option Addr) (K : Sl → Heap → Prop) (h : Heap) : Prop :=
  iteP c.isNone (
    K ⟨none, 0, 0⟩ h) (
    derefP c fun b o => 
    ldL h b (o + 9) fun t => 
    derefP c fun b1 o2 => 
    st h b1 (o2 + 9) (Value.slice none 0 0) fun h3 => 
    K t h3)

def m_client_Client_Send (c : Option Addr) (K : Sl → Heap → Prop) (h : Heap) : Prop := g_client_Client_Send c K h

/-- spillwaylaw21.do1 -/
def g_spillwaylaw21_do1 (f_client_Client_Tick : (Option Addr) → Int → (Int → Heap → Prop) → Heap → Prop) (f_client_Client_Dial : (Option Addr) → Int → (Bool → Int → Heap → Prop) → Heap → Prop) (f_client_Client_Up : (Option Addr) → Int → (Int → Heap → Prop) → Heap → Prop) (f_client_Client_Refused : (Option Addr) → Int → (Int → Heap → Prop) → Heap → Prop) (f_client_Client_Lost : (Option Addr) → Int → (Int → Heap → Prop) → Heap → Prop) (f_client_Client_Bytes : (Option Addr) → Int → Sl → (Int → Heap → Prop) → Heap → Prop) (f_client_Client_Send : (Option Addr) → (Sl → Heap → Prop) → Heap → Prop) (c : Option Addr) (x : Int × Int × Int × Int × Int × Int × ByteArray × Int × Sl × Unit) (K : Heap → Prop) (h : Heap) : Prop :=
  newC h [Value.int .i64 x.1, Value.int .i64 x.2.1, Value.int .i64 x.2.2.1, Value.int .u8 x.2.2.2.1, Value.int .i64 x.2.2.2.2.1, Value.int .i64 x.2.2.2.2.2.1, Value.string x.2.2.2.2.2.2.1, Value.int .i64 x.2.2.2.2.2.2.2.1, Value.slice x.2.2.2.2.2.2.2.2.1.ptr x.2.2.2.2.2.2.2.2.1.len x.2.2.2.2.2.2.2.2.1.cap] 41 fun b h1 => 
  ldI h1 b 0 .i64 fun t => 
  bindB (t == 0) fun t2 => 
  iteP t2 (
    ldI h1 b (0 + 1) .i64 fun t3 => 
    f_client_Client_Tick c t3 (fun t4 h5 =>
      K h5) h1) (
    bindB (t == 2) fun t6 => 
    iteP t6 (
      ldI h1 b (0 + 1) .i64 fun t7 => 
      f_client_Client_Dial c t7 (fun t8 t9 h10 =>
        K h10) h1) (
      bindB (t == 3) fun t11 => 
      iteP t11 (
        ldI h1 b (0 + 1) .i64 fun t12 => 
        f_client_Client_Up c t12 (fun t13 h14 =>
          K h14) h1) (
        bindB (t == 4) fun t15 => 
        iteP t15 (
          ldI h1 b (0 + 1) .i64 fun t16 => 
          f_client_Client_Refused c t16 (fun t17 h18 =>
            K h18) h1) (
          bindB (t == 5) fun t19 => 
          iteP t19 (
            ldI h1 b (0 + 1) .i64 fun t20 => 
            f_client_Client_Lost c t20 (fun t21 h22 =>
              K h22) h1) (
            bindB (t == 6) fun t23 => 
            iteP t23 (
              ldI h1 b (0 + 1) .i64 fun t24 => 
              ldL h1 b (0 + 8) fun t25 => 
              f_client_Client_Bytes c t24 t25 (fun t26 h27 =>
                K h27) h1) (
              bindB (t == 7) fun t28 => 
              iteP t28 (
                f_client_Client_Send c (fun t29 h30 =>
                  K h30) h1) (
                K h1)))))))

def m_spillwaylaw21_do1 (c : Option Addr) (x : Int × Int × Int × Int × Int × Int × ByteArray × Int × Sl × Unit) (K : Heap → Prop) (h : Heap) : Prop := g_spillwaylaw21_do1 m_client_Client_Tick m_client_Client_Dial m_client_Client_Up m_client_Client_Refused m_client_Client_Lost m_client_Client_Bytes m_client_Client_Send c x K h

/-- spillwaylaw21.ClientOnce -/
def g_spillwaylaw21_ClientOnce (f_client_New : (Int × Int × Int × Unit) → ByteArray → ((Option Addr) → Int → Heap → Prop) → Heap → Prop) (f_spillwaylaw21_live : (Bool → Heap → Prop) → Heap → Prop) (f_client_Client_Ask : (Option Addr) → Int → (Int × Int × Int × Int × ByteArray × Int × Unit) → (Int → Bool → Int → Heap → Prop) → Heap → Prop) (f_spillwaylaw21_do1 : (Option Addr) → (Int × Int × Int × Int × Int × Int × ByteArray × Int × Sl × Unit) → (Heap → Prop) → Heap → Prop) (f_client_Client_Told : (Option Addr) → (Sl → Heap → Prop) → Heap → Prop) (f_client_Client_Waiting : (Option Addr) → (Sl → Heap → Prop) → Heap → Prop) (s : Int × Int × Int × Unit) (l : Sl) (K : Bool → Heap → Prop) (h : Heap) : Prop :=
  newC h [Value.int .i64 s.1, Value.int .i64 s.2.1, Value.int .i64 s.2.2.1] 23 fun b h1 => 
  ldI h1 b 0 .i64 fun t => ldI h1 b (0 + 1) .i64 fun t2 => ldI h1 b (0 + 2) .i64 fun t3 => 
  f_client_New (t, t2, t3, ()) (ByteArray.mk #[120]) (fun t4 t5 h6 =>
    bindI t5 fun e => 
    iteP (e != 0) (
      f_spillwaylaw21_live (fun t7 h8 =>
        iteP t7 (
          bindB t4.isNone fun t9 => 
          K t9 h8) (
          K false h8)) h6) (
      newMap h6 fun b10 h11 => 
      bindI 0 fun now => 
      bindI 0 fun i => 
      loopM (σ := Int × Int × Unit) (fun J14 s15 h16 =>
        (fun (now12 : Int) (i13 : Int) =>
          iteP (decide (i13 < (l.len : Int))) (
            iteP (decide (i13 < 100)) (
              idxA l.ptr l.len i13 9 fun b17 o => 
              ldI h16 b17 o .i64 fun t18 => ldI h16 b17 (o + 1) .i64 fun t19 => ldI h16 b17 (o + 2) .i64 fun t20 => ldI h16 b17 (o + 3) .u8 fun t21 => ldI h16 b17 (o + 4) .i64 fun t22 => ldI h16 b17 (o + 5) .i64 fun t23 => ldS h16 b17 (o + 6) fun t24 => ldI h16 b17 (o + 7) .i64 fun t25 => ldL h16 b17 (o + 8) fun t26 => 
              newC h16 [Value.int .i64 0, Value.int .i64 0, Value.int .i64 0, Value.int .u8 0, Value.int .i64 0, Value.int .i64 0, Value.string (ByteArray.mk #[]), Value.int .i64 0, Value.slice none 0 0] 41 fun b27 h28 => 
              sts h28 b27 0 [Value.int .i64 t18, Value.int .i64 t19, Value.int .i64 t20, Value.int .u8 t21, Value.int .i64 t22, Value.int .i64 t23, Value.string t24, Value.int .i64 t25, Value.slice t26.ptr t26.len t26.cap] fun h29 => 
              ldI h29 b27 0 .i64 fun t30 => 
              iteP (t30 == 8) (
                bindI (IntKind.wrap .i64 (i13 + 1)) fun i31 => 
                J14 (now12, i31, ()) h29) (
                cutP (σ := Unit) (fun s59 h60 =>
                  cutP (σ := Int × Unit) (fun s69 h70 =>
                    (fun (now68 : Int) =>
                      f_client_Client_Told t4 (fun t71 h72 =>
                        bindI 0 fun k => 
                        loopM (σ := Int × Unit) (fun J74 s75 h76 =>
                          (fun (k73 : Int) =>
                            iteP (decide (k73 < (t71.len : Int))) (
                              idxA t71.ptr t71.len k73 7 fun b77 o78 => 
                              ldI h76 b77 o78 .i64 fun t79 => 
                              mapGet (.int .i64) h76 (some b10) (Value.int .i64 t79) fun r80 => asI (r80.getD (Value.int .i64 0)) .i64 fun t81 => 
                              bindI t81 fun at_ => 
                              bindB r80.isSome fun there82 => 
                              cutP (σ := Unit) (fun s88 h89 =>
                                idxA t71.ptr t71.len k73 7 fun b90 o91 => 
                                ldI h89 b90 o91 .i64 fun t92 => 
                                mapDel (.int .i64) h89 (some b10) (Value.int .i64 t92) fun h93 => 
                                bindI (IntKind.wrap .i64 (k73 + 1)) fun k94 => 
                                J74 (k94, ()) h93) (fun J83 =>
                                iteP (!there82) (
                                  K false h76) (
                                  idxA t71.ptr t71.len k73 7 fun b84 o85 => 
                                  ldB h76 b84 (o85 + 6) fun t86 => 
                                  iteP (!t86) (
                                    ldI h76 b 0 .i64 fun t87 => 
                                    iteP (decide ((IntKind.wrap .i64 (now68 - at_)) ≥ t87)) (
                                      K false h76) (
                                      J83 (()) h76)) (
                                    J83 (()) h76)))) (
                              f_client_Client_Waiting t4 (fun t95 h96 =>
                                lenM h96 (some b10) fun t97 => 
                                iteP ((t95.len : Int) != t97) (
                                  K false h96) (
                                  bindI 0 fun k98 => 
                                  loopM (σ := Int × Unit) (fun J100 s101 h102 =>
                                    (fun (k99 : Int) =>
                                      iteP (decide (k99 < (t95.len : Int))) (
                                        idxA t95.ptr t95.len k99 1 fun b103 o104 => 
                                        ldI h102 b103 o104 .i64 fun t105 => 
                                        mapGet (.int .i64) h102 (some b10) (Value.int .i64 t105) fun r106 => asI (r106.getD (Value.int .i64 0)) .i64 fun t107 => 
                                        bindI t107 fun at_108 => 
                                        bindB r106.isSome fun there109 => 
                                        iteP (!there109) (
                                          K false h102) (
                                          ldI h102 b 0 .i64 fun t110 => 
                                          iteP (decide ((IntKind.wrap .i64 (now68 - at_108)) ≥ t110)) (
                                            K false h102) (
                                            bindI (IntKind.wrap .i64 (k99 + 1)) fun k111 => 
                                            J100 (k111, ()) h102))) (
                                        bindI (IntKind.wrap .i64 (i13 + 1)) fun i112 => 
                                        J14 (now68, i112, ()) h102)) s101.1) (k98, ()) h96)) h76)) s75.1) (k, ()) h72) h70) s69.1) (fun J61 =>
                    ldI h60 b27 0 .i64 fun t62 => 
                    iteP (decide (t62 ≥ 0)) (
                      ldI h60 b27 0 .i64 fun t63 => 
                      iteP (decide (t63 ≤ 6)) (
                        ldI h60 b27 (0 + 1) .i64 fun t64 => 
                        iteP (decide (t64 ≥ now12)) (
                          ldI h60 b27 (0 + 1) .i64 fun t65 => 
                          iteP (decide (t65 ≤ 1152921504606846976)) (
                            ldI h60 b27 (0 + 1) .i64 fun t66 => 
                            bindI t66 fun now67 => 
                            J61 (now67, ()) h60) (
                            J61 (now12, ()) h60)) (
                          J61 (now12, ()) h60)) (
                        J61 (now12, ()) h60)) (
                      J61 (now12, ()) h60))) (fun J32 =>
                  ldI h29 b27 0 .i64 fun t33 => 
                  iteP (t33 == 1) (
                    ldI h29 b27 (0 + 1) .i64 fun t34 => 
                    ldI h29 b27 (0 + 2) .i64 fun t35 => ldI h29 b27 (0 + 2 + 1) .u8 fun t36 => ldI h29 b27 (0 + 2 + 2) .i64 fun t37 => ldI h29 b27 (0 + 2 + 3) .i64 fun t38 => ldS h29 b27 (0 + 2 + 4) fun t39 => ldI h29 b27 (0 + 2 + 5) .i64 fun t40 => 
                    f_client_Client_Ask t4 t34 (t35, t36, t37, t38, t39, t40, ()) (fun t41 t42 t43 h44 =>
                      bindI t41 fun n => 
                      bindB t42 fun fall => 
                      bindI t43 fun e45 => 
                      iteP (e45 == 0) (
                        iteP (!fall) (
                          mapGet (.int .i64) h44 (some b10) (Value.int .i64 n) fun r => asI (r.getD (Value.int .i64 0)) .i64 fun t46 => 
                          bindI t46 fun _ => 
                          bindB r.isSome fun there => 
                          iteP there (
                            K false h44) (
                            ldI h44 b27 (0 + 1) .i64 fun t47 => 
                            mapPut (.int .i64) h44 (some b10) (Value.int .i64 n) (Value.int .i64 t47) fun h48 => 
                            J32 (()) h48)) (
                          J32 (()) h44)) (
                        J32 (()) h44)) h29) (
                    ldI h29 b27 0 .i64 fun t49 => ldI h29 b27 (0 + 1) .i64 fun t50 => ldI h29 b27 (0 + 2) .i64 fun t51 => ldI h29 b27 (0 + 3) .u8 fun t52 => ldI h29 b27 (0 + 4) .i64 fun t53 => ldI h29 b27 (0 + 5) .i64 fun t54 => ldS h29 b27 (0 + 6) fun t55 => ldI h29 b27 (0 + 7) .i64 fun t56 => ldL h29 b27 (0 + 8) fun t57 => 
                    f_spillwaylaw21_do1 t4 (t49, t50, t51, t52, t53, t54, t55, t56, t57, ()) (fun h58 =>
                      J32 (()) h58) h29)))) (
              f_spillwaylaw21_live (fun t113 h114 =>
                bindB t113 fun t115 => 
                K t115 h114) h16)) (
            f_spillwaylaw21_live (fun t116 h117 =>
              bindB t116 fun t118 => 
              K t118 h117) h16)) s15.1 s15.2.1) (now, i, ()) h11)) h1

def m_spillwaylaw21_ClientOnce (s : Int × Int × Int × Unit) (l : Sl) (K : Bool → Heap → Prop) (h : Heap) : Prop := g_spillwaylaw21_ClientOnce m_client_New m_spillwaylaw21_live m_client_Client_Ask m_spillwaylaw21_do1 m_client_Client_Told m_client_Client_Waiting s l K h

/-- spillwaylaw21.ClientNone -/
def g_spillwaylaw21_ClientNone (f_client_Client_Ask : (Option Addr) → Int → (Int × Int × Int × Int × ByteArray × Int × Unit) → (Int → Bool → Int → Heap → Prop) → Heap → Prop) (f_client_Client_Dial : (Option Addr) → Int → (Bool → Int → Heap → Prop) → Heap → Prop) (f_spillwaylaw21_live : (Bool → Heap → Prop) → Heap → Prop) (f_client_Client_Up : (Option Addr) → Int → (Int → Heap → Prop) → Heap → Prop) (f_client_Client_Refused : (Option Addr) → Int → (Int → Heap → Prop) → Heap → Prop) (f_client_Client_Lost : (Option Addr) → Int → (Int → Heap → Prop) → Heap → Prop) (f_client_Client_Bytes : (Option Addr) → Int → Sl → (Int → Heap → Prop) → Heap → Prop) (f_client_Client_Tick : (Option Addr) → Int → (Int → Heap → Prop) → Heap → Prop) (f_client_Client_Send : (Option Addr) → (Sl → Heap → Prop) → Heap → Prop) (f_client_Client_Told : (Option Addr) → (Sl → Heap → Prop) → Heap → Prop) (f_client_Client_Waiting : (Option Addr) → (Sl → Heap → Prop) → Heap → Prop) (f_client_Client_Connected : (Option Addr) → (Bool → Heap → Prop) → Heap → Prop) (f_client_Client_Fork : (Option Addr) → ((Option Addr) → Heap → Prop) → Heap → Prop) (x : Int × Int × Int × Int × Int × Int × ByteArray × Int × Sl × Unit) (K : Bool → Heap → Prop) (h : Heap) : Prop :=
  newC h [Value.int .i64 x.1, Value.int .i64 x.2.1, Value.int .i64 x.2.2.1, Value.int .u8 x.2.2.2.1, Value.int .i64 x.2.2.2.2.1, Value.int .i64 x.2.2.2.2.2.1, Value.string x.2.2.2.2.2.2.1, Value.int .i64 x.2.2.2.2.2.2.2.1, Value.slice x.2.2.2.2.2.2.2.2.1.ptr x.2.2.2.2.2.2.2.2.1.len x.2.2.2.2.2.2.2.2.1.cap] 41 fun b h1 => 
  ldI h1 b (0 + 1) .i64 fun t => 
  ldI h1 b (0 + 2) .i64 fun t2 => ldI h1 b (0 + 2 + 1) .u8 fun t3 => ldI h1 b (0 + 2 + 2) .i64 fun t4 => ldI h1 b (0 + 2 + 3) .i64 fun t5 => ldS h1 b (0 + 2 + 4) fun t6 => ldI h1 b (0 + 2 + 5) .i64 fun t7 => 
  f_client_Client_Ask none t (t2, t3, t4, t5, t6, t7, ()) (fun t8 t9 t10 h11 =>
    bindI t8 fun _ => 
    bindB t9 fun _12 => 
    bindI t10 fun e => 
    ldI h11 b (0 + 1) .i64 fun t13 => 
    f_client_Client_Dial none t13 (fun t14 t15 h16 =>
      bindB t14 fun _17 => 
      bindI t15 fun f => 
      f_spillwaylaw21_live (fun t18 h19 =>
        iteP t18 (
          iteP (e == 1) (
            iteP (f == 1) (
              ldI h19 b (0 + 1) .i64 fun t20 => 
              f_client_Client_Up none t20 (fun t21 h22 =>
                iteP (t21 == 1) (
                  ldI h22 b (0 + 1) .i64 fun t23 => 
                  f_client_Client_Refused none t23 (fun t24 h25 =>
                    iteP (t24 == 1) (
                      ldI h25 b (0 + 1) .i64 fun t26 => 
                      f_client_Client_Lost none t26 (fun t27 h28 =>
                        iteP (t27 == 1) (
                          ldI h28 b (0 + 1) .i64 fun t29 => 
                          ldL h28 b (0 + 8) fun t30 => 
                          f_client_Client_Bytes none t29 t30 (fun t31 h32 =>
                            iteP (t31 == 1) (
                              ldI h32 b (0 + 1) .i64 fun t33 => 
                              f_client_Client_Tick none t33 (fun t34 h35 =>
                                iteP (t34 == 1) (
                                  f_client_Client_Send none (fun t36 h37 =>
                                    iteP ((t36.len : Int) == 0) (
                                      f_client_Client_Told none (fun t38 h39 =>
                                        iteP ((t38.len : Int) == 0) (
                                          f_client_Client_Waiting none (fun t40 h41 =>
                                            iteP ((t40.len : Int) == 0) (
                                              f_client_Client_Connected none (fun t42 h43 =>
                                                iteP (!t42) (
                                                  f_client_Client_Fork none (fun t44 h45 =>
                                                    bindB t44.isNone fun t46 => 
                                                    K t46 h45) h43) (
                                                  K false h43)) h41) (
                                              K false h41)) h39) (
                                          K false h39)) h37) (
                                      K false h37)) h35) (
                                  K false h35)) h32) (
                              K false h32)) h28) (
                          K false h28)) h25) (
                      K false h25)) h22) (
                  K false h22)) h19) (
              K false h19)) (
            K false h19)) (
          K false h19)) h16) h11) h1

def m_spillwaylaw21_ClientNone (x : Int × Int × Int × Int × Int × Int × ByteArray × Int × Sl × Unit) (K : Bool → Heap → Prop) (h : Heap) : Prop := g_spillwaylaw21_ClientNone m_client_Client_Ask m_client_Client_Dial m_spillwaylaw21_live m_client_Client_Up m_client_Client_Refused m_client_Client_Lost m_client_Client_Bytes m_client_Client_Tick m_client_Client_Send m_client_Client_Told m_client_Client_Waiting m_client_Client_Connected m_client_Client_Fork x K h

end Go.Proofs.Ytcmedplogmjiiaa
