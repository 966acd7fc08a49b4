/- The models of the functions. Written by a program out of the translated functions. -/
import Derived.Test.YtcmedplogmjiiaaGreatFwA
import GoSem.Machine.Frame
import GoSem.Op.String
import Derived.Test.YtcmedplogmjiiaaGreatExM
namespace Go.Proofs.YtcmedplogmjiiaaGreat
open Go Go.Fw

/-- proto.from -/
def g_proto_from (n : Int) (lo : Int) (hi : Int) (K : Bool → Heap → Prop) (h : Heap) : Prop :=
  iteP (decide (n ≥ lo)) (
    bindB (decide (n ≤ hi)) fun t => 
    K t h) (
    K false h)

def m_proto_from (n : Int) (lo : Int) (hi : Int) (K : Bool → Heap → Prop) (h : Heap) : Prop := g_proto_from n lo hi K h

/-- proto.isName -/
def g_proto_isName (f_proto_from : Int → Int → Int → (Bool → Heap → Prop) → Heap → Prop) (s : ByteArray) (K : Bool → Heap → Prop) (h : Heap) : Prop :=
  loopM (σ := Int × Unit) (fun J1 s2 h3 =>
    (fun (s6 : Int) =>
      iteP (decide (s6 < (s.size : Int))) (
        bindI s6 fun i => 
        idxS s i fun t => 
        f_proto_from (IntKind.wrap .i64 t) 33 126 (fun t4 h5 =>
          iteP (!t4) (
            K false h5) (
            J1 (IntKind.wrap .i64 (s6 + 1), ()) h5)) h3) (
        f_proto_from (s.size : Int) 1 64 (fun t6 h7 =>
          bindB t6 fun t8 => 
          K t8 h7) h3)) s2.1) (0, ()) h

def m_proto_isName (s : ByteArray) (K : Bool → Heap → Prop) (h : Heap) : Prop := g_proto_isName m_proto_from s K h

/-- proto.Right -/
def g_proto_Right (f_proto_from : Int → Int → Int → (Bool → Heap → Prop) → Heap → Prop) (f_proto_isName : ByteArray → (Bool → Heap → Prop) → Heap → Prop) (r : Int × Int × Int × Int × ByteArray × Int × Unit) (K : Bool → Heap → Prop) (h : Heap) : Prop :=
  newC h [Value.int .i64 r.1, Value.int .u8 r.2.1, Value.int .i64 r.2.2.1, Value.int .i64 r.2.2.2.1, Value.string r.2.2.2.2.1, Value.int .i64 r.2.2.2.2.2.1] 39 fun b h1 => 
  cutP (σ := Bool × Unit) (fun s h10 =>
    (fun (asks9 : Bool) =>
      cutP (σ := Bool × Unit) (fun s15 h16 =>
        (fun (bare14 : Bool) =>
          ldI h16 b 0 .i64 fun t17 => 
          f_proto_from t17 0 2147483647 (fun t18 h19 =>
            iteP (!t18) (
              K false h19) (
              ldI h19 b (0 + 1) .u8 fun t20 => 
              cutP (σ := Bool × Unit) (fun s24 h25 =>
                (fun (s32 : Bool) =>
                  iteP s32 (
                    iteP asks9 (
                      ldS h25 b (0 + 4) fun t26 => 
                      bindB (strEq t26 (ByteArray.mk #[])) fun t27 => 
                      K t27 h25) (
                      K false h25)) (
                    bindB (t20 == 2) fun t28 => 
                    iteP t28 (
                      iteP asks9 (
                        ldS h25 b (0 + 4) fun t29 => 
                        bindB (decide ((t29.size : Int) ≤ 64)) fun t30 => 
                        K t30 h25) (
                        K false h25)) (
                      bindB (t20 == 4) fun t31 => 
                      iteP t31 (
                        iteP bare14 (
                          ldI h25 b (0 + 5) .i64 fun t32 => 
                          f_proto_from t32 1 2147483647 (fun t33 h34 =>
                            iteP t33 (
                              ldS h34 b (0 + 4) fun t35 => 
                              bindB (strEq t35 (ByteArray.mk #[])) fun t36 => 
                              K t36 h34) (
                              K false h34)) h25) (
                          K false h25)) (
                        bindB (t20 == 5) fun t37 => 
                        iteP t37 (
                          iteP bare14 (
                            ldI h25 b (0 + 5) .i64 fun t38 => 
                            iteP (t38 == 0) (
                              ldS h25 b (0 + 4) fun t39 => 
                              f_proto_isName t39 (fun t40 h41 =>
                                bindB t40 fun t42 => 
                                K t42 h41) h25) (
                              K false h25)) (
                            K false h25)) (
                          K false h25))))) s24.1) (fun J21 =>
                bindB (t20 == 1) fun t22 => 
                iteP t22 (
                  J21 (t22, ()) h19) (
                  bindB (t20 == 3) fun t23 => 
                  J21 (t23, ()) h19)))) h16) s15.1) (fun J11 =>
        ldI h10 b (0 + 2) .i64 fun t12 => 
        iteP (t12 == 0) (
          ldI h10 b (0 + 3) .i64 fun t13 => 
          bindB (t13 == 0) fun bare => 
          J11 (bare, ()) h10) (
          J11 (false, ()) h10))) s.1) (fun J2 =>
    ldI h1 b (0 + 2) .i64 fun t => 
    f_proto_from t 1 1099511627776 (fun t3 h4 =>
      iteP t3 (
        ldI h4 b (0 + 3) .i64 fun t5 => 
        f_proto_from t5 1 1099511627776 (fun t6 h7 =>
          iteP t6 (
            ldI h7 b (0 + 5) .i64 fun t8 => 
            bindB (t8 == 0) fun asks => 
            J2 (asks, ()) h7) (
            J2 (false, ()) h7)) h4) (
        J2 (false, ()) h4)) h1)

def m_proto_Right (r : Int × Int × Int × Int × ByteArray × Int × Unit) (K : Bool → Heap → Prop) (h : Heap) : Prop := g_proto_Right m_proto_from m_proto_isName r K h

/-- frame.New -/
def g_frame_New (K : (Option Addr) → Heap → Prop) (h : Heap) : Prop :=
  newC h [Value.slice none 0 0, Value.bool false] 89 fun b h1 => 
  K (some ⟨b, 0, none⟩) h1

def m_frame_New (K : (Option Addr) → Heap → Prop) (h : Heap) : Prop := g_frame_New  K h

/-- client.New -/
def g_client_New (f_proto_Right : (Int × Int × Int × Int × ByteArray × Int × Unit) → (Bool → Heap → Prop) → Heap → Prop) (f_frame_New : ((Option Addr) → Heap → Prop) → Heap → Prop) (s : Int × Int × Int × Unit) (namespace_ : ByteArray) (K : (Option Addr) → Int → Heap → Prop) (h : Heap) : Prop :=
  newC h [Value.int .i64 s.1, Value.int .i64 s.2.1, Value.int .i64 s.2.2.1] 23 fun b h1 => 
  bindI 0 fun t => 
  ldI h1 b 0 .i64 fun t2 => 
  iteP (decide (t2 < 1)) (
    bindI 2 fun t3 => 
    K none t3 h1) (
    ldI h1 b 0 .i64 fun t4 => 
    iteP (decide (t4 > 60000000)) (
      bindI 2 fun t5 => 
      K none t5 h1) (
      ldI h1 b (0 + 1) .i64 fun t6 => 
      iteP (decide (t6 < 1)) (
        bindI 2 fun t7 => 
        K none t7 h1) (
        ldI h1 b (0 + 2) .i64 fun t8 => 
        ldI h1 b (0 + 1) .i64 fun t9 => 
        iteP (decide (t8 < t9)) (
          bindI 2 fun t10 => 
          K none t10 h1) (
          ldI h1 b (0 + 2) .i64 fun t11 => 
          bindB (decide (t11 > 3600000000)) fun t12 => 
          iteP t12 (
            bindI 2 fun t13 => 
            K none t13 h1) (
            f_proto_Right (0, 5, 0, 0, namespace_, 0, ()) (fun t14 h15 =>
              bindB (!t14) fun t16 => 
              iteP t16 (
                bindI 10 fun t17 => 
                K none t17 h15) (
                ldI h15 b 0 .i64 fun t18 => ldI h15 b (0 + 1) .i64 fun t19 => ldI h15 b (0 + 2) .i64 fun t20 => 
                ldI h15 b (0 + 1) .i64 fun t21 => 
                bothP (
                  f_frame_New (fun t22 h23 =>
                    need (heldL h23 [(b, 0 + 1, Value.int .i64 t21)]) <|
                    need (heldL h23 [(b, 0, Value.int .i64 t18), (b, 0 + 1, Value.int .i64 t19), (b, 0 + 2, Value.int .i64 t20)]) <|
                    newMap h23 fun b24 h25 => 
                    need (heldL h25 [(b, 0 + 1, Value.int .i64 t21)]) <|
                    need (heldL h25 [(b, 0, Value.int .i64 t18), (b, 0 + 1, Value.int .i64 t19), (b, 0 + 2, Value.int .i64 t20)]) <|
                    newC h25 [Value.pointer t22, Value.int .i64 t18, Value.int .i64 t19, Value.int .i64 t20, Value.string namespace_, Value.bool false, Value.int .i64 0, Value.int .i64 1, Value.map (some b24), Value.slice none 0 0, Value.slice none 0 0, Value.int .i64 0, Value.int .i64 t21] 53 fun b26 h27 => 
                    need (heldL h27 [(b, 0 + 1, Value.int .i64 t21)]) <|
                    need (heldL h27 [(b, 0, Value.int .i64 t18), (b, 0 + 1, Value.int .i64 t19), (b, 0 + 2, Value.int .i64 t20)]) <|
                    bindI 0 fun t28 => 
                    K (some ⟨b26, 0, none⟩) t28 h27) h15) (
                  newMap h15 fun b29 h30 => 
                  need (heldL h30 [(b, 0 + 1, Value.int .i64 t21)]) <|
                  need (heldL h30 [(b, 0, Value.int .i64 t18), (b, 0 + 1, Value.int .i64 t19), (b, 0 + 2, Value.int .i64 t20)]) <|
                  f_frame_New (fun t31 h32 =>
                    need (heldL h32 [(b, 0 + 1, Value.int .i64 t21)]) <|
                    need (heldL h32 [(b, 0, Value.int .i64 t18), (b, 0 + 1, Value.int .i64 t19), (b, 0 + 2, Value.int .i64 t20)]) <|
                    newC h32 [Value.pointer t31, Value.int .i64 t18, Value.int .i64 t19, Value.int .i64 t20, Value.string namespace_, Value.bool false, Value.int .i64 0, Value.int .i64 1, Value.map (some b29), Value.slice none 0 0, Value.slice none 0 0, Value.int .i64 0, Value.int .i64 t21] 53 fun b33 h34 => 
                    need (heldL h34 [(b, 0 + 1, Value.int .i64 t21)]) <|
                    need (heldL h34 [(b, 0, Value.int .i64 t18), (b, 0 + 1, Value.int .i64 t19), (b, 0 + 2, Value.int .i64 t20)]) <|
                    bindI 0 fun t35 => 
                    K (some ⟨b33, 0, none⟩) t35 h34) h30))) h1)))))

def m_client_New (s : Int × Int × Int × Unit) (namespace_ : ByteArray) (K : (Option Addr) → Int → Heap → Prop) (h : Heap) : Prop := g_client_New m_proto_Right m_frame_New s namespace_ K h

/-- spillwayref07.IsName -/
def g_spillwayref07_IsName (s : ByteArray) (K : Bool → Heap → Prop) (h : Heap) : Prop :=
  iteP (decide ((s.size : Int) < 1)) (
    K false h) (
    iteP (decide ((s.size : Int) > 64)) (
      K false h) (
      bindI 0 fun i => 
      loopM (σ := Int × Unit) (fun J2 s3 h4 =>
        (fun (i1 : Int) =>
          iteP (decide (i1 < (s.size : Int))) (
            idxS s i1 fun t => 
            iteP (decide (t < 33)) (
              K false h4) (
              idxS s i1 fun t5 => 
              iteP (decide (t5 > 126)) (
                K false h4) (
                bindI (IntKind.wrap .i64 (i1 + 1)) fun i6 => 
                J2 (i6, ()) h4))) (
            K true h4)) s3.1) (i, ()) h))

def m_spillwayref07_IsName (s : ByteArray) (K : Bool → Heap → Prop) (h : Heap) : Prop := g_spillwayref07_IsName s K h

/-- spillwayref18.New -/
def g_spillwayref18_New (K : (Option Addr) → Heap → Prop) (h : Heap) : Prop :=
  newC h [Value.slice none 0 0, Value.bool false] 91 fun b h1 => 
  K (some ⟨b, 0, none⟩) h1

def m_spillwayref18_New (K : (Option Addr) → Heap → Prop) (h : Heap) : Prop := g_spillwayref18_New  K h

/-- spillwayref21.New -/
def g_spillwayref21_New (f_spillwayref07_IsName : ByteArray → (Bool → Heap → Prop) → Heap → Prop) (f_spillwayref18_New : ((Option Addr) → Heap → Prop) → Heap → Prop) (s : Int × Int × Int × Unit) (name : ByteArray) (K : (Option Addr) → Int → Heap → Prop) (h : Heap) : Prop :=
  newC h [Value.int .i64 s.1, Value.int .i64 s.2.1, Value.int .i64 s.2.2.1] 32 fun b h1 => 
  bindI 0 fun t => 
  ldI h1 b 0 .i64 fun t2 => 
  iteP (decide (t2 < 1)) (
    bindI 2 fun t3 => 
    K none t3 h1) (
    ldI h1 b 0 .i64 fun t4 => 
    iteP (decide (t4 > 60000000)) (
      bindI 2 fun t5 => 
      K none t5 h1) (
      ldI h1 b (0 + 1) .i64 fun t6 => 
      iteP (decide (t6 < 1)) (
        bindI 2 fun t7 => 
        K none t7 h1) (
        ldI h1 b (0 + 2) .i64 fun t8 => 
        ldI h1 b (0 + 1) .i64 fun t9 => 
        iteP (decide (t8 < t9)) (
          bindI 2 fun t10 => 
          K none t10 h1) (
          ldI h1 b (0 + 2) .i64 fun t11 => 
          iteP (decide (t11 > 3600000000)) (
            bindI 2 fun t12 => 
            K none t12 h1) (
            f_spillwayref07_IsName name (fun t13 h14 =>
              iteP (!t13) (
                bindI 10 fun t15 => 
                K none t15 h14) (
                ldI h14 b 0 .i64 fun t16 => ldI h14 b (0 + 1) .i64 fun t17 => ldI h14 b (0 + 2) .i64 fun t18 => 
                ldI h14 b (0 + 1) .i64 fun t19 => 
                f_spillwayref18_New (fun t20 h21 =>
                  need (heldL h21 [(b, 0 + 1, Value.int .i64 t19)]) <|
                  need (heldL h21 [(b, 0, Value.int .i64 t16), (b, 0 + 1, Value.int .i64 t17), (b, 0 + 2, Value.int .i64 t18)]) <|
                  newC h21 [Value.int .i64 t16, Value.int .i64 t17, Value.int .i64 t18, Value.string name, Value.bool false, Value.slice none 0 0, Value.int .i64 0, Value.slice none 0 0, Value.slice none 0 0, Value.int .i64 0, Value.int .i64 t19, Value.pointer t20, Value.int .i64 0] 60 fun b22 h23 => 
                  need (heldL h23 [(b, 0 + 1, Value.int .i64 t19)]) <|
                  need (heldL h23 [(b, 0, Value.int .i64 t16), (b, 0 + 1, Value.int .i64 t17), (b, 0 + 2, Value.int .i64 t18)]) <|
                  bindI 0 fun t24 => 
                  K (some ⟨b22, 0, none⟩) t24 h23) h14)) h1)))))

def m_spillwayref21_New (s : Int × Int × Int × Unit) (name : ByteArray) (K : (Option Addr) → Int → Heap → Prop) (h : Heap) : Prop := g_spillwayref21_New m_spillwayref07_IsName m_spillwayref18_New s name K h

/-- (*client.Client).Waiting -/
def g_client_Client_Waiting (f_maps_Keys_map_int_int_int_int_ : (Option Nat) → (Value → Heap → Prop) → Heap → Prop) (f_slices_Sorted_int_ : Value → (Sl → Heap → Prop) → Heap → Prop) (c : Option Addr) (K : Sl → Heap → Prop) (h : Heap) : Prop :=
  iteP c.isNone (
    K ⟨none, 0, 0⟩ h) (
    derefP c fun b o => 
    ldM h b (o + 8) fun t => 
    f_maps_Keys_map_int_int_int_int_ t (fun t1 h2 =>
      f_slices_Sorted_int_ t1 (fun t3 h4 =>
        K t3 h4) h2) h)

def m_client_Client_Waiting (c : Option Addr) (K : Sl → Heap → Prop) (h : Heap) : Prop := g_client_Client_Waiting m_maps_Keys_map_int_int_int_int_ m_slices_Sorted_int_ c K h

/-- (*client.Client).fall -/
def g_client_Client_fall (c : Option Addr) (id : Int) (K : Heap → Prop) (h : Heap) : Prop :=
  derefP c fun b o => 
  ldM h b (o + 8) fun t => 
  mapDel (.int .i64) h t (Value.int .i64 id) fun h1 => 
  derefP c fun b2 o3 => 
  ldL h1 b2 (o3 + 10) fun t4 => 
  newC h1 [Value.int .i64 id, Value.int .i64 0, Value.int .u8 0, Value.int .i64 0, Value.int .i64 0, Value.int .i64 0, Value.bool true] 69 fun b5 h6 => 
  rdS ⟨some ⟨b5, 0, none⟩, 1, 1⟩ 7 h6 fun new => app 69 7 56 [Value.int .i64 0, Value.int .i64 0, Value.int .u8 0, Value.int .i64 0, Value.int .i64 0, Value.int .i64 0, Value.bool false] t4 1 new h6 fun t7 h8 => 
  derefP c fun b9 o10 => 
  st h8 b9 (o10 + 10) (Value.slice t7.ptr t7.len t7.cap) fun h11 => 
  K h11

def m_client_Client_fall (c : Option Addr) (id : Int) (K : Heap → Prop) (h : Heap) : Prop := g_client_Client_fall c id K h

/-- (*proto.writer).numbers -/
def g_proto_writer_numbers (w : Option Addr) (l : Sl) (K : Heap → Prop) (h : Heap) : Prop :=
  loopM (σ := Int × Unit) (fun J1 s h2 =>
    (fun (s9 : Int) =>
      iteP (decide (s9 < (l.len : Int))) (
        idxA l.ptr l.len s9 1 fun b o => 
        ldI h2 b o .i64 fun t => 
        bindI t fun n => 
        bindI 56 fun shift => 
        loopM (σ := Int × Unit) (fun J4 s5 h6 =>
          (fun (shift3 : Int) =>
            iteP (decide (shift3 ≥ 0)) (
              derefP w fun b7 o8 => 
              need (0 ≤ shift3) <| 
              ldL h6 b7 o8 fun t9 => 
              newC h6 [Value.int .u8 (IntKind.wrap .u8 (shrV .i64 n shift3))] 5 fun b10 h11 => 
              need (heldL h11 [(b7, o8, Value.slice t9.ptr t9.len t9.cap)]) <|
              rdS ⟨some ⟨b10, 0, none⟩, 1, 1⟩ 1 h11 fun new => app 5 1 1 [Value.int .u8 0] t9 1 new h11 fun t12 h13 => 
              derefP w fun b14 o15 => 
              st h13 b14 o15 (Value.slice t12.ptr t12.len t12.cap) fun h16 => 
              bindI (IntKind.wrap .i64 (shift3 - 8)) fun shift17 => 
              J4 (shift17, ()) h16) (
              J1 (IntKind.wrap .i64 (s9 + 1), ()) h6)) s5.1) (shift, ()) h2) (
        K h2)) s.1) (0, ()) h

def m_proto_writer_numbers (w : Option Addr) (l : Sl) (K : Heap → Prop) (h : Heap) : Prop := g_proto_writer_numbers w l K h

/-- proto.Request -/
def g_proto_Request (f_proto_Right : (Int × Int × Int × Int × ByteArray × Int × Unit) → (Bool → Heap → Prop) → Heap → Prop) (f_proto_writer_numbers : (Option Addr) → Sl → (Heap → Prop) → Heap → Prop) (r : Int × Int × Int × Int × ByteArray × Int × Unit) (K : Sl → Int → Heap → Prop) (h : Heap) : Prop :=
  newC h [Value.int .i64 r.1, Value.int .u8 r.2.1, Value.int .i64 r.2.2.1, Value.int .i64 r.2.2.2.1, Value.string r.2.2.2.2.1, Value.int .i64 r.2.2.2.2.2.1] 39 fun b h1 => 
  bindI 0 fun t => 
  ldI h1 b 0 .i64 fun t2 => ldI h1 b (0 + 1) .u8 fun t3 => ldI h1 b (0 + 2) .i64 fun t4 => ldI h1 b (0 + 3) .i64 fun t5 => ldS h1 b (0 + 4) fun t6 => ldI h1 b (0 + 5) .i64 fun t7 => 
  f_proto_Right (t2, t3, t4, t5, t6, t7, ()) (fun t8 h9 =>
    iteP (!t8) (
      bindI 6 fun t10 => 
      K ⟨none, 0, 0⟩ t10 h9) (
      ldI h9 b (0 + 1) .u8 fun t11 => 
      newC h9 [Value.int .u8 t11] 5 fun b12 h13 => 
      newC h13 [Value.slice none 0 0] 144 fun b14 h15 => 
      sts h15 b14 0 [Value.slice (some ⟨b12, 0, none⟩) 1 1] fun h16 => 
      ldI h16 b 0 .i64 fun t17 => 
      ldI h16 b (0 + 2) .i64 fun t18 => 
      ldI h16 b (0 + 3) .i64 fun t19 => 
      ldI h16 b (0 + 5) .i64 fun t20 => 
      newC h16 [Value.int .i64 t17, Value.int .i64 t18, Value.int .i64 t19, Value.int .i64 t20] 3 fun b21 h22 => 
      f_proto_writer_numbers (some ⟨b14, 0, none⟩) ⟨some ⟨b21, 0, none⟩, 4, 4⟩ (fun h23 =>
        ldL h23 b14 0 fun t24 => 
        ldS h23 b (0 + 4) fun t25 => 
        ldS h23 b (0 + 4) fun t26 => 
        newC h23 [Value.int .u8 (IntKind.wrap .u8 (t25.size : Int))] 5 fun b27 h28 => 
        need (heldL h28 [(b, 0 + 4, Value.string t26)]) <|
        need (heldL h28 [(b, 0 + 4, Value.string t25)]) <|
        need (heldL h28 [(b14, 0, Value.slice t24.ptr t24.len t24.cap)]) <|
        rdS ⟨some ⟨b27, 0, none⟩, 1, 1⟩ 1 h28 fun new => app 5 1 1 [Value.int .u8 0] t24 1 new h28 fun t29 h30 => 
        need (heldL h30 [(b, 0 + 4, Value.string t26)]) <|
        need (heldL h30 [(b, 0 + 4, Value.string t25)]) <|
        app 5 1 1 [Value.int .u8 0] t29 t26.size (byteVals t26) h30 fun t31 h32 => 
        need (heldL h32 [(b, 0 + 4, Value.string t25)]) <|
        bindI 0 fun t33 => 
        K t31 t33 h32) h22)) h1

def m_proto_Request (r : Int × Int × Int × Int × ByteArray × Int × Unit) (K : Sl → Int → Heap → Prop) (h : Heap) : Prop := g_proto_Request m_proto_Right m_proto_writer_numbers r K h

/-- frame.Frame -/
def g_frame_Frame (payload : Sl) (K : Sl → Int → Heap → Prop) (h : Heap) : Prop :=
  bindI 0 fun t => 
  bindI (payload.len : Int) fun n => 
  bindB (decide (n > 4096)) fun t1 => 
  iteP t1 (
    bindI 5 fun t2 => 
    K ⟨none, 0, 0⟩ t2 h) (
    bindB (n == 0) fun t3 => 
    iteP t3 (
      bindI 6 fun t4 => 
      K ⟨none, 0, 0⟩ t4 h) (
      need (0 ≤ (24 : Int)) <| 
      need (0 ≤ (16 : Int)) <| 
      need (0 ≤ (8 : Int)) <| 
      newC h [Value.int .u8 (IntKind.wrap .u8 (shrV .i64 n 24)), Value.int .u8 (IntKind.wrap .u8 (shrV .i64 n 16)), Value.int .u8 (IntKind.wrap .u8 (shrV .i64 n 8)), Value.int .u8 (IntKind.wrap .u8 n)] 5 fun b h5 => 
      rdS payload 1 h5 fun new => app 5 1 1 [Value.int .u8 0] ⟨some ⟨b, 0, none⟩, 4, 4⟩ payload.len new h5 fun t6 h7 => 
      bindI 0 fun t8 => 
      K t6 t8 h7))

def m_frame_Frame (payload : Sl) (K : Sl → Int → Heap → Prop) (h : Heap) : Prop := g_frame_Frame payload K h

/-- frame.Frames -/
def g_frame_Frames (f_frame_Frame : Sl → (Sl → Int → Heap → Prop) → Heap → Prop) (l : Sl) (K : Sl → Int → Heap → Prop) (h : Heap) : Prop :=
  bindI 0 fun t => 
  loopM (σ := Sl × Int × Unit) (fun J1 s h2 =>
    (fun (out : Sl) (s11 : Int) =>
      iteP (decide (s11 < (l.len : Int))) (
        idxA l.ptr l.len s11 1 fun b o => 
        ldL h2 b o fun t3 => 
        f_frame_Frame t3 (fun t4 t5 h6 =>
          bindI t5 fun e => 
          iteP (e != 0) (
            bindI e fun t7 => 
            K ⟨none, 0, 0⟩ t7 h6) (
            rdS t4 1 h6 fun new => app 5 1 1 [Value.int .u8 0] out t4.len new h6 fun t8 h9 => 
            J1 (t8, IntKind.wrap .i64 (s11 + 1), ()) h9)) h2) (
        bindI 0 fun t10 => 
        K out t10 h2)) s.1 s.2.1) (⟨none, 0, 0⟩, 0, ()) h

def m_frame_Frames (l : Sl) (K : Sl → Int → Heap → Prop) (h : Heap) : Prop := g_frame_Frames m_frame_Frame l K h

/-- proto.All -/
def g_proto_All (f_proto_Request : (Int × Int × Int × Int × ByteArray × Int × Unit) → (Sl → Int → Heap → Prop) → Heap → Prop) (f_frame_Frames : Sl → (Sl → Int → Heap → Prop) → Heap → Prop) (l : Sl) (K : Sl → Int → Heap → Prop) (h : Heap) : Prop :=
  bindI 0 fun t => 
  loopM (σ := Sl × Int × Unit) (fun J1 s h2 =>
    (fun (payloads : Sl) (s11 : Int) =>
      iteP (decide (s11 < (l.len : Int))) (
        idxA l.ptr l.len s11 6 fun b o => 
        ldI h2 b o .i64 fun t3 => ldI h2 b (o + 1) .u8 fun t4 => ldI h2 b (o + 2) .i64 fun t5 => ldI h2 b (o + 3) .i64 fun t6 => ldS h2 b (o + 4) fun t7 => ldI h2 b (o + 5) .i64 fun t8 => 
        newC h2 [Value.int .i64 0, Value.int .u8 0, Value.int .i64 0, Value.int .i64 0, Value.string (ByteArray.mk #[]), Value.int .i64 0] 39 fun b9 h10 => 
        sts h10 b9 0 [Value.int .i64 t3, Value.int .u8 t4, Value.int .i64 t5, Value.int .i64 t6, Value.string t7, Value.int .i64 t8] fun h11 => 
        ldI h11 b9 0 .i64 fun t12 => ldI h11 b9 (0 + 1) .u8 fun t13 => ldI h11 b9 (0 + 2) .i64 fun t14 => ldI h11 b9 (0 + 3) .i64 fun t15 => ldS h11 b9 (0 + 4) fun t16 => ldI h11 b9 (0 + 5) .i64 fun t17 => 
        f_proto_Request (t12, t13, t14, t15, t16, t17, ()) (fun t18 t19 h20 =>
          bindI t19 fun err => 
          iteP (err != 0) (
            bindI err fun t21 => 
            K ⟨none, 0, 0⟩ t21 h20) (
            newC h20 [Value.slice t18.ptr t18.len t18.cap] 40 fun b22 h23 => 
            rdS ⟨some ⟨b22, 0, none⟩, 1, 1⟩ 1 h23 fun new => app 40 1 24 [Value.slice none 0 0] payloads 1 new h23 fun t24 h25 => 
            J1 (t24, IntKind.wrap .i64 (s11 + 1), ()) h25)) h11) (
        f_frame_Frames payloads (fun t26 t27 h28 =>
          bindI t27 fun t29 => 
          K t26 t29 h28) h2)) s.1 s.2.1) (⟨none, 0, 0⟩, 0, ()) h

def m_proto_All (l : Sl) (K : Sl → Int → Heap → Prop) (h : Heap) : Prop := g_proto_All m_proto_Request m_frame_Frames l K h

/-- (*client.Client).queue -/
def g_client_Client_queue (f_proto_All : Sl → (Sl → Int → Heap → Prop) → Heap → Prop) (c : Option Addr) (r : Int × Int × Int × Int × ByteArray × Int × Unit) (K : Heap → Prop) (h : Heap) : Prop :=
  newC h [Value.int .i64 r.1, Value.int .u8 r.2.1, Value.int .i64 r.2.2.1, Value.int .i64 r.2.2.2.1, Value.string r.2.2.2.2.1, Value.int .i64 r.2.2.2.2.2.1] 39 fun b h1 => 
  ldI h1 b 0 .i64 fun t => ldI h1 b (0 + 1) .u8 fun t2 => ldI h1 b (0 + 2) .i64 fun t3 => ldI h1 b (0 + 3) .i64 fun t4 => ldS h1 b (0 + 4) fun t5 => ldI h1 b (0 + 5) .i64 fun t6 => 
  newC h1 [Value.int .i64 t, Value.int .u8 t2, Value.int .i64 t3, Value.int .i64 t4, Value.string t5, Value.int .i64 t6] 39 fun b7 h8 => 
  f_proto_All ⟨some ⟨b7, 0, none⟩, 1, 1⟩ (fun t9 t10 h11 =>
    bindI t10 fun _ => 
    derefP c fun b12 o => 
    ldL h11 b12 (o + 9) fun t13 => 
    rdS t9 1 h11 fun new => app 5 1 1 [Value.int .u8 0] t13 t9.len new h11 fun t14 h15 => 
    derefP c fun b16 o17 => 
    st h15 b16 (o17 + 9) (Value.slice t14.ptr t14.len t14.cap) fun h18 => 
    K h18) h8

def m_client_Client_queue (c : Option Addr) (r : Int × Int × Int × Int × ByteArray × Int × Unit) (K : Heap → Prop) (h : Heap) : Prop := g_client_Client_queue m_proto_All c r K h

/-- (*client.Client).Ask$1 -/
def g_client_Client_Ask_1 (f_proto_Right : (Int × Int × Int × Int × ByteArray × Int × Unit) → (Bool → Heap → Prop) → Heap → Prop) (f_client_Client_queue : (Option Addr) → (Int × Int × Int × Int × ByteArray × Int × Unit) → (Heap → Prop) → Heap → Prop) (a0 : Option Addr) (a1 : Option Addr) (a2 : Option Addr) (a3 : Option Addr) (a4 : Option Addr) (K : Int → Heap → Prop) (h : Heap) : Prop :=
  bindI 0 fun t => 
  derefP a0 fun b o => 
  st h b o (Value.int .i64 0) fun h1 => 
  derefP a0 fun b2 o3 => ldI h1 b2 o3 .i64 fun t4 => ldI h1 b2 (o3 + 1) .u8 fun t5 => ldI h1 b2 (o3 + 2) .i64 fun t6 => ldI h1 b2 (o3 + 3) .i64 fun t7 => ldS h1 b2 (o3 + 4) fun t8 => ldI h1 b2 (o3 + 5) .i64 fun t9 => 
  f_proto_Right (t4, t5, t6, t7, t8, t9, ()) (fun t10 h11 =>
    iteP (!t10) (
      bindI 6 fun t12 => 
      K t12 h11) (
      derefP a0 fun b13 o14 => 
      ldI h11 b13 (o14 + 1) .u8 fun t15 => 
      bindB (t15 == 5) fun t16 => 
      iteP t16 (
        bindI 6 fun t17 => 
        K t17 h11) (
        derefP a1 fun b18 o19 => ldP h11 b18 o19 fun t20 => 
        derefP t20 fun b21 o22 => 
        ldB h11 b21 (o22 + 5) fun t23 => 
        iteP (!t23) (
          derefP a2 fun b24 o25 => st h11 b24 o25 (Value.bool true) fun h26 => 
          bindI 0 fun t27 => 
          K t27 h26) (
          derefP a1 fun b28 o29 => ldP h11 b28 o29 fun t30 => 
          derefP t30 fun b31 o32 => 
          ldM h11 b31 (o32 + 8) fun t33 => 
          lenM h11 t33 fun t34 => 
          bindB (decide (t34 ≥ 256)) fun t35 => 
          iteP t35 (
            derefP a2 fun b36 o37 => st h11 b36 o37 (Value.bool true) fun h38 => 
            bindI 0 fun t39 => 
            K t39 h38) (
            derefP a1 fun b40 o41 => ldP h11 b40 o41 fun t42 => 
            derefP t42 fun b43 o44 => 
            ldI h11 b43 (o44 + 7) .i64 fun t45 => 
            derefP a1 fun b46 o47 => ldP h11 b46 o47 fun t48 => 
            derefP t48 fun b49 o50 => 
            ldI h11 b49 (o50 + 7) .i64 fun t51 => 
            derefP a3 fun b52 o53 => st h11 b52 o53 (Value.int .i64 t45) fun h54 => 
            need (heldL h54 [(b49, o50 + 7, Value.int .i64 t51)]) <|
            need (heldL h54 [(b46, o47, Value.pointer t48)]) <|
            derefP a0 fun b55 o56 => 
            st h54 b55 o56 (Value.int .i64 t51) fun h57 => 
            derefP a1 fun b58 o59 => ldP h57 b58 o59 fun t60 => 
            derefP t60 fun b61 o62 => 
            ldI h57 b61 (o62 + 7) .i64 fun t63 => 
            derefP t60 fun b64 o65 => 
            st h57 b64 (o65 + 7) (Value.int .i64 (IntKind.wrap .i64 (t63 + 1))) fun h66 => 
            derefP a1 fun b67 o68 => ldP h66 b67 o68 fun t69 => 
            derefP t69 fun b70 o71 => 
            ldM h66 b70 (o71 + 8) fun t72 => 
            derefP a3 fun b73 o74 => ldI h66 b73 o74 .i64 fun t75 => 
            derefP a4 fun b76 o77 => ldI h66 b76 o77 .i64 fun t78 => 
            mapPut (.int .i64) h66 t72 (Value.int .i64 t75) (Value.int .i64 t78) fun h79 => 
            derefP a1 fun b80 o81 => ldP h79 b80 o81 fun t82 => 
            derefP a0 fun b83 o84 => ldI h79 b83 o84 .i64 fun t85 => ldI h79 b83 (o84 + 1) .u8 fun t86 => ldI h79 b83 (o84 + 2) .i64 fun t87 => ldI h79 b83 (o84 + 3) .i64 fun t88 => ldS h79 b83 (o84 + 4) fun t89 => ldI h79 b83 (o84 + 5) .i64 fun t90 => 
            f_client_Client_queue t82 (t85, t86, t87, t88, t89, t90, ()) (fun h91 =>
              bindI 0 fun t92 => 
              K t92 h91) h79))))) h1

def m_client_Client_Ask_1 (a0 : Option Addr) (a1 : Option Addr) (a2 : Option Addr) (a3 : Option Addr) (a4 : Option Addr) (K : Int → Heap → Prop) (h : Heap) : Prop := g_client_Client_Ask_1 m_proto_Right m_client_Client_queue a0 a1 a2 a3 a4 K h

/-- (*client.Client).at -/
def g_client_Client_at__client_Client_Ask_1 (f_client_Client_Waiting : (Option Addr) → (Sl → Heap → Prop) → Heap → Prop) (f_client_Client_fall : (Option Addr) → Int → (Heap → Prop) → Heap → Prop) (f_client_Client_Ask_1 : (Option Addr) → (Option Addr) → (Option Addr) → (Option Addr) → (Option Addr) → (Int → Heap → Prop) → Heap → Prop) (c : Option Addr) (at_ : Int) (then_ : Option Addr × Option Addr × Option Addr × Option Addr × Option Addr × Unit) (K : Int → Heap → Prop) (h : Heap) : Prop :=
  bindI 0 fun t => 
  bindB c.isNone fun t1 => 
  iteP t1 (
    bindI 1 fun t2 => 
    K t2 h) (
    iteP (decide (at_ < 0)) (
      bindI 2 fun t3 => 
      K t3 h) (
      bindB (decide (at_ > 1152921504606846976)) fun t4 => 
      iteP t4 (
        bindI 2 fun t5 => 
        K t5 h) (
        derefP c fun b o => 
        ldI h b (o + 6) .i64 fun t6 => 
        bindB (decide (at_ < t6)) fun t7 => 
        iteP t7 (
          bindI 7 fun t8 => 
          K t8 h) (
          derefP c fun b9 o10 => 
          st h b9 (o10 + 6) (Value.int .i64 at_) fun h11 => 
          f_client_Client_Waiting c (fun t12 h13 =>
            loopM (σ := Int × Unit) (fun J14 s h15 =>
              (fun (s33 : Int) =>
                iteP (decide (s33 < (t12.len : Int))) (
                  idxA t12.ptr t12.len s33 1 fun b16 o17 => 
                  ldI h15 b16 o17 .i64 fun t18 => 
                  bindI t18 fun id => 
                  derefP c fun b19 o20 => 
                  derefP c fun b21 o22 => 
                  ldM h15 b19 (o20 + 8) fun t23 => 
                  ldI h15 b21 (o22 + 1) .i64 fun t24 => 
                  mapGet (.int .i64) h15 t23 (Value.int .i64 id) fun r => asI (r.getD (Value.int .i64 0)) .i64 fun t25 => 
                  need (heldL h15 [(b21, o22 + 1, Value.int .i64 t24)]) <|
                  iteP (decide ((IntKind.wrap .i64 (at_ - t25)) ≥ t24)) (
                    f_client_Client_fall c id (fun h26 =>
                      J14 (IntKind.wrap .i64 (s33 + 1), ()) h26) h15) (
                    J14 (IntKind.wrap .i64 (s33 + 1), ()) h15)) (
                  f_client_Client_Ask_1 then_.1 then_.2.1 then_.2.2.1 then_.2.2.2.1 then_.2.2.2.2.1 (fun t27 h28 =>
                    bindI t27 fun t29 => 
                    K t29 h28) h15)) s.1) (0, ()) h13) h11))))

def m_client_Client_at__client_Client_Ask_1 (c : Option Addr) (at_ : Int) (then_ : Option Addr × Option Addr × Option Addr × Option Addr × Option Addr × Unit) (K : Int → Heap → Prop) (h : Heap) : Prop := g_client_Client_at__client_Client_Ask_1 m_client_Client_Waiting m_client_Client_fall m_client_Client_Ask_1 c at_ then_ K h

/-- (*client.Client).Ask -/
def g_client_Client_Ask (f_client_Client_at__client_Client_Ask_1 : (Option Addr) → Int → (Option Addr × Option Addr × Option Addr × Option Addr × Option Addr × Unit) → (Int → Heap → Prop) → Heap → Prop) (c : Option Addr) (at_ : Int) (r : Int × Int × Int × Int × ByteArray × Int × Unit) (K : Int → Bool → Int → Heap → Prop) (h : Heap) : Prop :=
  newC h [Value.pointer c] 25 fun b h1 => 
  newC h1 [Value.int .i64 at_] 3 fun b2 h3 => 
  newC h3 [Value.int .i64 r.1, Value.int .u8 r.2.1, Value.int .i64 r.2.2.1, Value.int .i64 r.2.2.2.1, Value.string r.2.2.2.2.1, Value.int .i64 r.2.2.2.2.2.1] 39 fun b4 h5 => 
  newC h5 [Value.int .i64 0] 3 fun b6 h7 => 
  newC h7 [Value.bool false] 4 fun b8 h9 => 
  bindI 0 fun e => 
  ldP h9 b 0 fun t => 
  ldI h9 b2 0 .i64 fun t10 => 
  f_client_Client_at__client_Client_Ask_1 t t10 (some ⟨b4, 0, none⟩, some ⟨b, 0, none⟩, some ⟨b8, 0, none⟩, some ⟨b6, 0, none⟩, some ⟨b2, 0, none⟩, ()) (fun t11 h12 =>
    bindI t11 fun e13 => 
    ldI h12 b6 0 .i64 fun t14 => 
    ldB h12 b8 0 fun t15 => 
    st h12 b6 0 (Value.int .i64 t14) fun h16 => 
    need (heldL h16 [(b8, 0, Value.bool t15)]) <|
    st h16 b8 0 (Value.bool t15) fun h17 => 
    bindI e13 fun e18 => 
    ldI h17 b6 0 .i64 fun t19 => ldB h17 b8 0 fun t20 => K t19 t20 e18 h17) h9

def m_client_Client_Ask (c : Option Addr) (at_ : Int) (r : Int × Int × Int × Int × ByteArray × Int × Unit) (K : Int → Bool → Int → Heap → Prop) (h : Heap) : Prop := g_client_Client_Ask m_client_Client_at__client_Client_Ask_1 c at_ r K h

/-- (*client.Client).Up$1 -/
def g_client_Client_Up_1 (f_client_Client_queue : (Option Addr) → (Int × Int × Int × Int × ByteArray × Int × Unit) → (Heap → Prop) → Heap → Prop) (a0 : Option Addr) (K : Int → Heap → Prop) (h : Heap) : Prop :=
  bindI 0 fun t => 
  derefP a0 fun b o => ldP h b o fun t1 => 
  derefP t1 fun b2 o3 => 
  ldB h b2 (o3 + 5) fun t4 => 
  iteP t4 (
    bindI 52 fun t5 => 
    K t5 h) (
    derefP a0 fun b6 o7 => ldP h b6 o7 fun t8 => 
    derefP a0 fun b9 o10 => ldP h b9 o10 fun t11 => 
    derefP a0 fun b12 o13 => ldP h b12 o13 fun t14 => 
    derefP t14 fun b15 o16 => 
    ldI h b15 (o16 + 1 + 1) .i64 fun t17 => 
    derefP t8 fun b18 o19 => 
    st h b18 (o19 + 5) (Value.bool true) fun h20 => 
    need (heldL h20 [(b12, o13, Value.pointer t14)]) <|
    need (heldL h20 [(b9, o10, Value.pointer t11)]) <|
    derefP t11 fun b21 o22 => 
    st h20 b21 (o22 + 12) (Value.int .i64 t17) fun h23 => 
    derefP a0 fun b24 o25 => ldP h23 b24 o25 fun t26 => 
    derefP a0 fun b27 o28 => ldP h23 b27 o28 fun t29 => 
    derefP t29 fun b30 o31 => 
    ldS h23 b30 (o31 + 4) fun t32 => 
    f_client_Client_queue t26 (0, 5, 0, 0, t32, 0, ()) (fun h33 =>
      need (heldL h33 [(b30, o31 + 4, Value.string t32)]) <|
      need (heldL h33 [(b27, o28, Value.pointer t29)]) <|
      bindI 0 fun t34 => 
      K t34 h33) h23)

def m_client_Client_Up_1 (a0 : Option Addr) (K : Int → Heap → Prop) (h : Heap) : Prop := g_client_Client_Up_1 m_client_Client_queue a0 K h

/-- (*client.Client).at -/
def g_client_Client_at__client_Client_Up_1 (f_client_Client_Waiting : (Option Addr) → (Sl → Heap → Prop) → Heap → Prop) (f_client_Client_fall : (Option Addr) → Int → (Heap → Prop) → Heap → Prop) (f_client_Client_Up_1 : (Option Addr) → (Int → Heap → Prop) → Heap → Prop) (c : Option Addr) (at_ : Int) (then_ : Option Addr × Unit) (K : Int → Heap → Prop) (h : Heap) : Prop :=
  bindI 0 fun t => 
  bindB c.isNone fun t1 => 
  iteP t1 (
    bindI 1 fun t2 => 
    K t2 h) (
    iteP (decide (at_ < 0)) (
      bindI 2 fun t3 => 
      K t3 h) (
      bindB (decide (at_ > 1152921504606846976)) fun t4 => 
      iteP t4 (
        bindI 2 fun t5 => 
        K t5 h) (
        derefP c fun b o => 
        ldI h b (o + 6) .i64 fun t6 => 
        bindB (decide (at_ < t6)) fun t7 => 
        iteP t7 (
          bindI 7 fun t8 => 
          K t8 h) (
          derefP c fun b9 o10 => 
          st h b9 (o10 + 6) (Value.int .i64 at_) fun h11 => 
          f_client_Client_Waiting c (fun t12 h13 =>
            loopM (σ := Int × Unit) (fun J14 s h15 =>
              (fun (s33 : Int) =>
                iteP (decide (s33 < (t12.len : Int))) (
                  idxA t12.ptr t12.len s33 1 fun b16 o17 => 
                  ldI h15 b16 o17 .i64 fun t18 => 
                  bindI t18 fun id => 
                  derefP c fun b19 o20 => 
                  derefP c fun b21 o22 => 
                  ldM h15 b19 (o20 + 8) fun t23 => 
                  ldI h15 b21 (o22 + 1) .i64 fun t24 => 
                  mapGet (.int .i64) h15 t23 (Value.int .i64 id) fun r => asI (r.getD (Value.int .i64 0)) .i64 fun t25 => 
                  need (heldL h15 [(b21, o22 + 1, Value.int .i64 t24)]) <|
                  iteP (decide ((IntKind.wrap .i64 (at_ - t25)) ≥ t24)) (
                    f_client_Client_fall c id (fun h26 =>
                      J14 (IntKind.wrap .i64 (s33 + 1), ()) h26) h15) (
                    J14 (IntKind.wrap .i64 (s33 + 1), ()) h15)) (
                  f_client_Client_Up_1 then_.1 (fun t27 h28 =>
                    bindI t27 fun t29 => 
                    K t29 h28) h15)) s.1) (0, ()) h13) h11))))

def m_client_Client_at__client_Client_Up_1 (c : Option Addr) (at_ : Int) (then_ : Option Addr × Unit) (K : Int → Heap → Prop) (h : Heap) : Prop := g_client_Client_at__client_Client_Up_1 m_client_Client_Waiting m_client_Client_fall m_client_Client_Up_1 c at_ then_ K h

/-- (*client.Client).Up -/
def g_client_Client_Up (f_client_Client_at__client_Client_Up_1 : (Option Addr) → Int → (Option Addr × Unit) → (Int → Heap → Prop) → Heap → Prop) (c : Option Addr) (at_ : Int) (K : Int → Heap → Prop) (h : Heap) : Prop :=
  newC h [Value.pointer c] 25 fun b h1 => 
  bindI 0 fun t => 
  ldP h1 b 0 fun t2 => 
  f_client_Client_at__client_Client_Up_1 t2 at_ (some ⟨b, 0, none⟩, ()) (fun t3 h4 =>
    bindI t3 fun t5 => 
    K t5 h4) h1

def m_client_Client_Up (c : Option Addr) (at_ : Int) (K : Int → Heap → Prop) (h : Heap) : Prop := g_client_Client_Up m_client_Client_at__client_Client_Up_1 c at_ K h

/-- (*client.Client).Tick$1 -/
def g_client_Client_Tick_1 (K : Int → Heap → Prop) (h : Heap) : Prop :=
  bindI 0 fun t => 
  bindI 0 fun t1 => 
  K t1 h

def m_client_Client_Tick_1 (K : Int → Heap → Prop) (h : Heap) : Prop := g_client_Client_Tick_1  K h

/-- (*client.Client).at -/
def g_client_Client_at__client_Client_Tick_1 (f_client_Client_Waiting : (Option Addr) → (Sl → Heap → Prop) → Heap → Prop) (f_client_Client_fall : (Option Addr) → Int → (Heap → Prop) → Heap → Prop) (f_client_Client_Tick_1 : (Int → Heap → Prop) → Heap → Prop) (c : Option Addr) (at_ : Int) (K : Int → Heap → Prop) (h : Heap) : Prop :=
  bindI 0 fun t => 
  bindB c.isNone fun t1 => 
  iteP t1 (
    bindI 1 fun t2 => 
    K t2 h) (
    iteP (decide (at_ < 0)) (
      bindI 2 fun t3 => 
      K t3 h) (
      bindB (decide (at_ > 1152921504606846976)) fun t4 => 
      iteP t4 (
        bindI 2 fun t5 => 
        K t5 h) (
        derefP c fun b o => 
        ldI h b (o + 6) .i64 fun t6 => 
        bindB (decide (at_ < t6)) fun t7 => 
        iteP t7 (
          bindI 7 fun t8 => 
          K t8 h) (
          derefP c fun b9 o10 => 
          st h b9 (o10 + 6) (Value.int .i64 at_) fun h11 => 
          f_client_Client_Waiting c (fun t12 h13 =>
            loopM (σ := Int × Unit) (fun J14 s h15 =>
              (fun (s33 : Int) =>
                iteP (decide (s33 < (t12.len : Int))) (
                  idxA t12.ptr t12.len s33 1 fun b16 o17 => 
                  ldI h15 b16 o17 .i64 fun t18 => 
                  bindI t18 fun id => 
                  derefP c fun b19 o20 => 
                  derefP c fun b21 o22 => 
                  ldM h15 b19 (o20 + 8) fun t23 => 
                  ldI h15 b21 (o22 + 1) .i64 fun t24 => 
                  mapGet (.int .i64) h15 t23 (Value.int .i64 id) fun r => asI (r.getD (Value.int .i64 0)) .i64 fun t25 => 
                  need (heldL h15 [(b21, o22 + 1, Value.int .i64 t24)]) <|
                  iteP (decide ((IntKind.wrap .i64 (at_ - t25)) ≥ t24)) (
                    f_client_Client_fall c id (fun h26 =>
                      J14 (IntKind.wrap .i64 (s33 + 1), ()) h26) h15) (
                    J14 (IntKind.wrap .i64 (s33 + 1), ()) h15)) (
                  f_client_Client_Tick_1 (fun t27 h28 =>
                    bindI t27 fun t29 => 
                    K t29 h28) h15)) s.1) (0, ()) h13) h11))))

def m_client_Client_at__client_Client_Tick_1 (c : Option Addr) (at_ : Int) (K : Int → Heap → Prop) (h : Heap) : Prop := g_client_Client_at__client_Client_Tick_1 m_client_Client_Waiting m_client_Client_fall m_client_Client_Tick_1 c at_ K h

/-- (*client.Client).Tick -/
def g_client_Client_Tick (f_client_Client_at__client_Client_Tick_1 : (Option Addr) → Int → (Int → Heap → Prop) → Heap → Prop) (c : Option Addr) (at_ : Int) (K : Int → Heap → Prop) (h : Heap) : Prop :=
  bindI 0 fun t => 
  f_client_Client_at__client_Client_Tick_1 c at_ (fun t1 h2 =>
    bindI t1 fun t3 => 
    K t3 h2) h

def m_client_Client_Tick (c : Option Addr) (at_ : Int) (K : Int → Heap → Prop) (h : Heap) : Prop := g_client_Client_Tick m_client_Client_at__client_Client_Tick_1 c at_ K h

/-- (*client.Client).Told -/
def g_client_Client_Told (c : Option Addr) (K : Sl → Heap → Prop) (h : Heap) : Prop :=
  iteP c.isNone (
    K ⟨none, 0, 0⟩ h) (
    derefP c fun b o => 
    ldL h b (o + 10) fun t => 
    derefP c fun b1 o2 => 
    st h b1 (o2 + 10) (Value.slice none 0 0) fun h3 => 
    K t h3)

def m_client_Client_Told (c : Option Addr) (K : Sl → Heap → Prop) (h : Heap) : Prop := g_client_Client_Told c K h

/-- (*client.Client).Connected -/
def g_client_Client_Connected (c : Option Addr) (K : Bool → Heap → Prop) (h : Heap) : Prop :=
  iteP c.isSome (
    derefP c fun b o => 
    ldB h b (o + 5) fun t => 
    bindB t fun t1 => 
    K t1 h) (
    K false h)

def m_client_Client_Connected (c : Option Addr) (K : Bool → Heap → Prop) (h : Heap) : Prop := g_client_Client_Connected c K h

/-- spillwaylaw21.live -/
def g_spillwaylaw21_live (f_client_New : (Int × Int × Int × Unit) → ByteArray → ((Option Addr) → Int → Heap → Prop) → Heap → Prop) (f_client_Client_Ask : (Option Addr) → Int → (Int × Int × Int × Int × ByteArray × Int × Unit) → (Int → Bool → Int → Heap → Prop) → Heap → Prop) (f_client_Client_Up : (Option Addr) → Int → (Int → Heap → Prop) → Heap → Prop) (f_client_Client_Tick : (Option Addr) → Int → (Int → Heap → Prop) → Heap → Prop) (f_client_Client_Told : (Option Addr) → (Sl → Heap → Prop) → Heap → Prop) (f_client_Client_Connected : (Option Addr) → (Bool → Heap → Prop) → Heap → Prop) (K : Bool → Heap → Prop) (h : Heap) : Prop :=
  f_client_New (1000, 10, 40, ()) (ByteArray.mk #[120]) (fun t t1 h2 =>
    bindI t1 fun e => 
    iteP (e != 0) (
      K false h2) (
      iteP t.isNone (
        K false h2) (
        f_client_Client_Ask t 0 (0, 1, 1, 1, ByteArray.mk #[], 0, ()) (fun t3 t4 t5 h6 =>
          bindI t3 fun _ => 
          bindB t4 fun a => 
          bindI t5 fun f => 
          f_client_Client_Up t 1 (fun t7 h8 =>
            bindI t7 fun g => 
            f_client_Client_Ask t 2 (0, 1, 1, 1, ByteArray.mk #[], 0, ()) (fun t9 t10 t11 h12 =>
              bindI t9 fun n => 
              bindB t10 fun b => 
              bindI t11 fun h13 => 
              f_client_Client_Tick t 1002 (fun t14 h15 =>
                f_client_Client_Told t (fun t16 h17 =>
                  iteP a (
                    iteP (f == 0) (
                      iteP (g == 0) (
                        iteP (n == 1) (
                          iteP (!b) (
                            iteP (h13 == 0) (
                              iteP ((t16.len : Int) == 1) (
                                idxA t16.ptr t16.len 0 7 fun b18 o => 
                                ldB h17 b18 (o + 6) fun t19 => 
                                iteP t19 (
                                  idxA t16.ptr t16.len 0 7 fun b20 o21 => 
                                  ldI h17 b20 o21 .i64 fun t22 => 
                                  iteP (t22 == 1) (
                                    f_client_Client_Connected t (fun t23 h24 =>
                                      bindB t23 fun t25 => 
                                      K t25 h24) h17) (
                                    K false h17)) (
                                  K false h17)) (
                                K false h17)) (
                              K false h17)) (
                            K false h17)) (
                          K false h17)) (
                        K false h17)) (
                      K false h17)) (
                    K false h17)) h15) h12) h8) h6) h2))) h

def m_spillwaylaw21_live (K : Bool → Heap → Prop) (h : Heap) : Prop := g_spillwaylaw21_live m_client_New m_client_Client_Ask m_client_Client_Up m_client_Client_Tick m_client_Client_Told m_client_Client_Connected  K h

/-- bytes.Clone -/
def g_bytes_Clone (b : Sl) (K : Sl → Heap → Prop) (h : Heap) : Prop :=
  iteP b.ptr.isNone (
    K ⟨none, 0, 0⟩ h) (
    newC h [] 5 fun b1 h2 => 
    rdS b 1 h2 fun new => app 5 1 1 [Value.int .u8 0] ⟨some ⟨b1, 0, none⟩, 0, 0⟩ b.len new h2 fun t h3 => 
    K t h3)

def m_bytes_Clone (b : Sl) (K : Sl → Heap → Prop) (h : Heap) : Prop := g_bytes_Clone b K h

/-- (*frame.Reader).Fork -/
def g_frame_Reader_Fork (f_bytes_Clone : Sl → (Sl → Heap → Prop) → Heap → Prop) (r : Option Addr) (K : (Option Addr) → Heap → Prop) (h : Heap) : Prop :=
  iteP r.isNone (
    K none h) (
    derefP r fun b o => 
    derefP r fun b1 o2 => 
    ldL h b o fun t => 
    ldB h b1 (o2 + 1) fun t3 => 
    f_bytes_Clone t (fun t4 h5 =>
      need (heldL h5 [(b1, o2 + 1, Value.bool t3)]) <|
      newC h5 [Value.slice t4.ptr t4.len t4.cap, Value.bool t3] 89 fun b6 h7 => 
      need (heldL h7 [(b1, o2 + 1, Value.bool t3)]) <|
      K (some ⟨b6, 0, none⟩) h7) h)

def m_frame_Reader_Fork (r : Option Addr) (K : (Option Addr) → Heap → Prop) (h : Heap) : Prop := g_frame_Reader_Fork m_bytes_Clone r K h

/-- maps.Clone[map[int]int,int,int] -/
def g_maps_Clone_map_int_int_int_int_ (m : Option Nat) (K : (Option Nat) → Heap → Prop) (h : Heap) : Prop :=
  iteP m.isNone (
    K none h) (
    cloneM (Value.iface 50 (Value.map m)) h fun t h1 => 
    asT t 50 fun y => asM y fun t2 => 
    K t2 h1)

def m_maps_Clone_map_int_int_int_int_ (m : Option Nat) (K : (Option Nat) → Heap → Prop) (h : Heap) : Prop := g_maps_Clone_map_int_int_int_int_ m K h

/-- slices.Clone[[]byte,byte] -/
def g_slices_Clone_byte_byte_ (s : Sl) (K : Sl → Heap → Prop) (h : Heap) : Prop :=
  iteP s.ptr.isNone (
    K ⟨none, 0, 0⟩ h) (
    newC h [] 5 fun b h1 => 
    rdS s 1 h1 fun new => app 5 1 1 [Value.int .u8 0] ⟨some ⟨b, 0, none⟩, 0, 0⟩ s.len new h1 fun t h2 => 
    K t h2)

def m_slices_Clone_byte_byte_ (s : Sl) (K : Sl → Heap → Prop) (h : Heap) : Prop := g_slices_Clone_byte_byte_ s K h

/-- slices.Clone[[]client.Told,client.Told] -/
def g_slices_Clone_client_Told_client_Told_ (s : Sl) (K : Sl → Heap → Prop) (h : Heap) : Prop :=
  iteP s.ptr.isNone (
    K ⟨none, 0, 0⟩ h) (
    newC h [] 69 fun b h1 => 
    rdS s 7 h1 fun new => app 69 7 56 [Value.int .i64 0, Value.int .i64 0, Value.int .u8 0, Value.int .i64 0, Value.int .i64 0, Value.int .i64 0, Value.bool false] ⟨some ⟨b, 0, none⟩, 0, 0⟩ s.len new h1 fun t h2 => 
    K t h2)

def m_slices_Clone_client_Told_client_Told_ (s : Sl) (K : Sl → Heap → Prop) (h : Heap) : Prop := g_slices_Clone_client_Told_client_Told_ s K h

/-- (*client.Client).Fork -/
def g_client_Client_Fork (f_frame_Reader_Fork : (Option Addr) → ((Option Addr) → Heap → Prop) → Heap → Prop) (f_maps_Clone_map_int_int_int_int_ : (Option Nat) → ((Option Nat) → Heap → Prop) → Heap → Prop) (f_slices_Clone_byte_byte_ : Sl → (Sl → Heap → Prop) → Heap → Prop) (f_slices_Clone_client_Told_client_Told_ : Sl → (Sl → Heap → Prop) → Heap → Prop) (c : Option Addr) (K : (Option Addr) → Heap → Prop) (h : Heap) : Prop :=
  iteP c.isNone (
    K none h) (
    derefP c fun b o => 
    ldP h b o fun t => ldI h b (o + 1) .i64 fun t1 => ldI h b (o + 2) .i64 fun t2 => ldI h b (o + 3) .i64 fun t3 => ldS h b (o + 4) fun t4 => ldB h b (o + 5) fun t5 => ldI h b (o + 6) .i64 fun t6 => ldI h b (o + 7) .i64 fun t7 => ldM h b (o + 8) fun t8 => ldL h b (o + 9) fun t9 => ldL h b (o + 10) fun t10 => ldI h b (o + 11) .i64 fun t11 => ldI h b (o + 12) .i64 fun t12 => 
    newC h [Value.pointer none, Value.int .i64 0, Value.int .i64 0, Value.int .i64 0, Value.string (ByteArray.mk #[]), Value.bool false, Value.int .i64 0, Value.int .i64 0, Value.map none, Value.slice none 0 0, Value.slice none 0 0, Value.int .i64 0, Value.int .i64 0] 53 fun b13 h14 => 
    sts h14 b13 0 [Value.pointer t, Value.int .i64 t1, Value.int .i64 t2, Value.int .i64 t3, Value.string t4, Value.bool t5, Value.int .i64 t6, Value.int .i64 t7, Value.map t8, Value.slice t9.ptr t9.len t9.cap, Value.slice t10.ptr t10.len t10.cap, Value.int .i64 t11, Value.int .i64 t12] fun h15 => 
    derefP c fun b16 o17 => 
    derefP c fun b18 o19 => 
    ldP h15 b16 o17 fun t20 => 
    ldM h15 b18 (o19 + 8) fun t21 => 
    f_frame_Reader_Fork t20 (fun t22 h23 =>
      need (heldL h23 [(b18, o19 + 8, Value.map t21)]) <|
      f_maps_Clone_map_int_int_int_int_ t21 (fun t24 h25 =>
        st h25 b13 0 (Value.pointer t22) fun h26 => 
        st h26 b13 (0 + 8) (Value.map t24) fun h27 => 
        derefP c fun b28 o29 => 
        derefP c fun b30 o31 => 
        ldL h27 b28 (o29 + 9) fun t32 => 
        ldL h27 b30 (o31 + 10) fun t33 => 
        f_slices_Clone_byte_byte_ t32 (fun t34 h35 =>
          need (heldL h35 [(b30, o31 + 10, Value.slice t33.ptr t33.len t33.cap)]) <|
          f_slices_Clone_client_Told_client_Told_ t33 (fun t36 h37 =>
            st h37 b13 (0 + 9) (Value.slice t34.ptr t34.len t34.cap) fun h38 => 
            st h38 b13 (0 + 10) (Value.slice t36.ptr t36.len t36.cap) fun h39 => 
            K (some ⟨b13, 0, none⟩) h39) h35) h27) h23) h15)

def m_client_Client_Fork (c : Option Addr) (K : (Option Addr) → Heap → Prop) (h : Heap) : Prop := g_client_Client_Fork m_frame_Reader_Fork m_maps_Clone_map_int_int_int_int_ m_slices_Clone_byte_byte_ m_slices_Clone_client_Told_client_Told_ c K h

/-- (*spillwayref18.Reader).Fork -/
def g_spillwayref18_Reader_Fork (r : Option Addr) (K : (Option Addr) → Heap → Prop) (h : Heap) : Prop :=
  iteP r.isNone (
    K none h) (
    derefP r fun b o => 
    derefP r fun b1 o2 => 
    ldL h b o fun t => 
    ldB h b1 (o2 + 1) fun t3 => 
    newC h [] 5 fun b4 h5 => 
    need (heldL h5 [(b1, o2 + 1, Value.bool t3)]) <|
    need (heldL h5 [(b, o, Value.slice t.ptr t.len t.cap)]) <|
    rdS t 1 h5 fun new => app 5 1 1 [Value.int .u8 0] ⟨some ⟨b4, 0, none⟩, 0, 0⟩ t.len new h5 fun t6 h7 => 
    need (heldL h7 [(b1, o2 + 1, Value.bool t3)]) <|
    newC h7 [Value.slice t6.ptr t6.len t6.cap, Value.bool t3] 91 fun b8 h9 => 
    need (heldL h9 [(b1, o2 + 1, Value.bool t3)]) <|
    K (some ⟨b8, 0, none⟩) h9)

def m_spillwayref18_Reader_Fork (r : Option Addr) (K : (Option Addr) → Heap → Prop) (h : Heap) : Prop := g_spillwayref18_Reader_Fork r K h

/-- (*spillwayref21.Client).Fork -/
def g_spillwayref21_Client_Fork (f_spillwayref18_Reader_Fork : (Option Addr) → ((Option Addr) → Heap → Prop) → Heap → Prop) (c : Option Addr) (K : (Option Addr) → Heap → Prop) (h : Heap) : Prop :=
  iteP c.isNone (
    K none h) (
    derefP c fun b o => 
    ldI h b o .i64 fun t => ldI h b (o + 1) .i64 fun t1 => ldI h b (o + 2) .i64 fun t2 => ldS h b (o + 3) fun t3 => ldB h b (o + 4) fun t4 => ldL h b (o + 5) fun t5 => ldI h b (o + 6) .i64 fun t6 => ldL h b (o + 7) fun t7 => ldL h b (o + 8) fun t8 => ldI h b (o + 9) .i64 fun t9 => ldI h b (o + 10) .i64 fun t10 => ldP h b (o + 11) fun t11 => ldI h b (o + 12) .i64 fun t12 => 
    newC h [Value.int .i64 0, Value.int .i64 0, Value.int .i64 0, Value.string (ByteArray.mk #[]), Value.bool false, Value.slice none 0 0, Value.int .i64 0, Value.slice none 0 0, Value.slice none 0 0, Value.int .i64 0, Value.int .i64 0, Value.pointer none, Value.int .i64 0] 60 fun b13 h14 => 
    sts h14 b13 0 [Value.int .i64 t, Value.int .i64 t1, Value.int .i64 t2, Value.string t3, Value.bool t4, Value.slice t5.ptr t5.len t5.cap, Value.int .i64 t6, Value.slice t7.ptr t7.len t7.cap, Value.slice t8.ptr t8.len t8.cap, Value.int .i64 t9, Value.int .i64 t10, Value.pointer t11, Value.int .i64 t12] fun h15 => 
    st h15 b13 (0 + 5) (Value.slice none 0 0) fun h16 => 
    st h16 b13 (0 + 7) (Value.slice none 0 0) fun h17 => 
    st h17 b13 (0 + 8) (Value.slice none 0 0) fun h18 => 
    derefP c fun b19 o20 => 
    ldL h18 b13 (0 + 5) fun t21 => 
    ldL h18 b19 (o20 + 5) fun t22 => 
    rdS t22 2 h18 fun new => app 86 2 16 [Value.int .i64 0, Value.int .i64 0] t21 t22.len new h18 fun t23 h24 => 
    st h24 b13 (0 + 5) (Value.slice t23.ptr t23.len t23.cap) fun h25 => 
    derefP c fun b26 o27 => 
    ldL h25 b13 (0 + 7) fun t28 => 
    ldL h25 b26 (o27 + 7) fun t29 => 
    rdS t29 1 h25 fun new32 => app 5 1 1 [Value.int .u8 0] t28 t29.len new32 h25 fun t30 h31 => 
    st h31 b13 (0 + 7) (Value.slice t30.ptr t30.len t30.cap) fun h33 => 
    derefP c fun b34 o35 => 
    ldL h33 b13 (0 + 8) fun t36 => 
    ldL h33 b34 (o35 + 8) fun t37 => 
    rdS t37 7 h33 fun new40 => app 104 7 56 [Value.int .i64 0, Value.int .i64 0, Value.int .u8 0, Value.int .i64 0, Value.int .i64 0, Value.int .i64 0, Value.bool false] t36 t37.len new40 h33 fun t38 h39 => 
    st h39 b13 (0 + 8) (Value.slice t38.ptr t38.len t38.cap) fun h41 => 
    derefP c fun b42 o43 => 
    ldP h41 b42 (o43 + 11) fun t44 => 
    f_spillwayref18_Reader_Fork t44 (fun t45 h46 =>
      st h46 b13 (0 + 11) (Value.pointer t45) fun h47 => 
      K (some ⟨b13, 0, none⟩) h47) h41)

def m_spillwayref21_Client_Fork (c : Option Addr) (K : (Option Addr) → Heap → Prop) (h : Heap) : Prop := g_spillwayref21_Client_Fork m_spillwayref18_Reader_Fork c K h

/-- (*spillwayref21.Client).fall -/
def g_spillwayref21_Client_fall (c : Option Addr) (i : Int) (K : Heap → Prop) (h : Heap) : Prop :=
  derefP c fun b o => 
  derefP c fun b1 o2 => 
  ldL h b (o + 8) fun t => 
  ldL h b1 (o2 + 5) fun t3 => 
  idxA t3.ptr t3.len i 2 fun b4 o5 => 
  ldI h b4 o5 .i64 fun t6 => 
  newC h [Value.int .i64 t6, Value.int .i64 0, Value.int .u8 0, Value.int .i64 0, Value.int .i64 0, Value.int .i64 0, Value.bool true] 104 fun b7 h8 => 
  need (heldL h8 [(b4, o5, Value.int .i64 t6)]) <|
  need (heldL h8 [(b1, o2 + 5, Value.slice t3.ptr t3.len t3.cap)]) <|
  need (heldL h8 [(b, o + 8, Value.slice t.ptr t.len t.cap)]) <|
  rdS ⟨some ⟨b7, 0, none⟩, 1, 1⟩ 7 h8 fun new => app 104 7 56 [Value.int .i64 0, Value.int .i64 0, Value.int .u8 0, Value.int .i64 0, Value.int .i64 0, Value.int .i64 0, Value.bool false] t 1 new h8 fun t9 h10 => 
  need (heldL h10 [(b4, o5, Value.int .i64 t6)]) <|
  need (heldL h10 [(b1, o2 + 5, Value.slice t3.ptr t3.len t3.cap)]) <|
  derefP c fun b11 o12 => 
  st h10 b11 (o12 + 8) (Value.slice t9.ptr t9.len t9.cap) fun h13 => 
  derefP c fun b14 o15 => 
  ldL h13 b14 (o15 + 5) fun t16 => 
  slc t16.ptr t16.cap 2 0 i t16.cap fun t17 => 
  rdS t17 2 h13 fun new20 => app 86 2 16 [Value.int .i64 0, Value.int .i64 0] ⟨none, 0, 0⟩ t17.len new20 h13 fun t18 h19 => 
  derefP c fun b21 o22 => 
  ldL h19 b21 (o22 + 5) fun t23 => 
  slc t23.ptr t23.cap 2 (IntKind.wrap .i64 (i + 1)) t23.len t23.cap fun t24 => 
  rdS t24 2 h19 fun new27 => app 86 2 16 [Value.int .i64 0, Value.int .i64 0] t18 t24.len new27 h19 fun t25 h26 => 
  derefP c fun b28 o29 => 
  st h26 b28 (o29 + 5) (Value.slice t25.ptr t25.len t25.cap) fun h30 => 
  K h30

def m_spillwayref21_Client_fall (c : Option Addr) (i : Int) (K : Heap → Prop) (h : Heap) : Prop := g_spillwayref21_Client_fall c i K h

/-- (*spillwayref21.Client).Tick -/
def g_spillwayref21_Client_Tick (f_spillwayref21_Client_fall : (Option Addr) → Int → (Heap → Prop) → Heap → Prop) (c : Option Addr) (at_ : Int) (K : Int → Heap → Prop) (h : Heap) : Prop :=
  bindI 0 fun t => 
  bindB c.isNone fun t1 => 
  iteP t1 (
    bindI 1 fun t2 => 
    K t2 h) (
    iteP (decide (at_ < 0)) (
      bindI 2 fun t3 => 
      K t3 h) (
      bindB (decide (at_ > 1152921504606846976)) fun t4 => 
      iteP t4 (
        bindI 2 fun t5 => 
        K t5 h) (
        derefP c fun b o => 
        ldI h b (o + 12) .i64 fun t6 => 
        bindB (decide (at_ < t6)) fun t7 => 
        iteP t7 (
          bindI 7 fun t8 => 
          K t8 h) (
          derefP c fun b9 o10 => 
          st h b9 (o10 + 12) (Value.int .i64 at_) fun h11 => 
          loopM (σ := Unit) (fun J12 s h13 =>
            derefP c fun b14 o15 => 
            ldL h13 b14 (o15 + 5) fun t16 => 
            iteP (decide ((t16.len : Int) > 0)) (
              derefP c fun b17 o18 => 
              ldL h13 b17 (o18 + 5) fun t19 => 
              idxA t19.ptr t19.len 0 2 fun b20 o21 => 
              ldI h13 b20 (o21 + 1) .i64 fun t22 => 
              derefP c fun b23 o24 => 
              ldI h13 b23 o24 .i64 fun t25 => 
              iteP (decide ((IntKind.wrap .i64 (at_ - t22)) ≥ t25)) (
                f_spillwayref21_Client_fall c 0 (fun h26 =>
                  J12 (()) h26) h13) (
                bindI 0 fun t27 => 
                K t27 h13)) (
              bindI 0 fun t28 => 
              K t28 h13)) (()) h11))))

def m_spillwayref21_Client_Tick (c : Option Addr) (at_ : Int) (K : Int → Heap → Prop) (h : Heap) : Prop := g_spillwayref21_Client_Tick m_spillwayref21_Client_fall c at_ K h

/-- spillwayref19.in -/
def g_spillwayref19_in (n : Int) (lo : Int) (hi : Int) (K : Bool → Heap → Prop) (h : Heap) : Prop :=
  iteP (decide (n ≥ lo)) (
    bindB (decide (n ≤ hi)) fun t => 
    K t h) (
    K false h)

def m_spillwayref19_in (n : Int) (lo : Int) (hi : Int) (K : Bool → Heap → Prop) (h : Heap) : Prop := g_spillwayref19_in n lo hi K h

/-- spillwayref19.Right -/
def g_spillwayref19_Right (f_spillwayref19_in : Int → Int → Int → (Bool → Heap → Prop) → Heap → Prop) (f_spillwayref07_IsName : ByteArray → (Bool → Heap → Prop) → Heap → Prop) (r : Int × Int × Int × Int × ByteArray × Int × Unit) (K : Bool → Heap → Prop) (h : Heap) : Prop :=
  newC h [Value.int .i64 r.1, Value.int .u8 r.2.1, Value.int .i64 r.2.2.1, Value.int .i64 r.2.2.2.1, Value.string r.2.2.2.2.1, Value.int .i64 r.2.2.2.2.2.1] 39 fun b h1 => 
  cutP (σ := Bool × Unit) (fun s h9 =>
    (fun (flow8 : Bool) =>
      cutP (σ := Bool × Unit) (fun s14 h15 =>
        (fun (none13 : Bool) =>
          ldI h15 b 0 .i64 fun t16 => 
          f_spillwayref19_in t16 0 2147483647 (fun t17 h18 =>
            iteP (!t17) (
              K false h18) (
              ldI h18 b (0 + 1) .u8 fun t19 => 
              cutP (σ := Bool × Unit) (fun s23 h24 =>
                (fun (s27 : Bool) =>
                  iteP s27 (
                    iteP flow8 (
                      ldS h24 b (0 + 4) fun t25 => 
                      iteP (strEq t25 (ByteArray.mk #[])) (
                        ldI h24 b (0 + 5) .i64 fun t26 => 
                        bindB (t26 == 0) fun t27 => 
                        K t27 h24) (
                        K false h24)) (
                      K false h24)) (
                    bindB (t19 == 2) fun t28 => 
                    iteP t28 (
                      iteP flow8 (
                        ldS h24 b (0 + 4) fun t29 => 
                        iteP (decide ((t29.size : Int) ≤ 64)) (
                          ldI h24 b (0 + 5) .i64 fun t30 => 
                          bindB (t30 == 0) fun t31 => 
                          K t31 h24) (
                          K false h24)) (
                        K false h24)) (
                      bindB (t19 == 4) fun t32 => 
                      iteP t32 (
                        iteP none13 (
                          ldS h24 b (0 + 4) fun t33 => 
                          iteP (strEq t33 (ByteArray.mk #[])) (
                            ldI h24 b (0 + 5) .i64 fun t34 => 
                            f_spillwayref19_in t34 1 2147483647 (fun t35 h36 =>
                              bindB t35 fun t37 => 
                              K t37 h36) h24) (
                            K false h24)) (
                          K false h24)) (
                        bindB (t19 == 5) fun t38 => 
                        iteP t38 (
                          iteP none13 (
                            ldS h24 b (0 + 4) fun t39 => 
                            f_spillwayref07_IsName t39 (fun t40 h41 =>
                              iteP t40 (
                                ldI h41 b (0 + 5) .i64 fun t42 => 
                                bindB (t42 == 0) fun t43 => 
                                K t43 h41) (
                                K false h41)) h24) (
                            K false h24)) (
                          K false h24))))) s23.1) (fun J20 =>
                bindB (t19 == 1) fun t21 => 
                iteP t21 (
                  J20 (t21, ()) h18) (
                  bindB (t19 == 3) fun t22 => 
                  J20 (t22, ()) h18)))) h15) s14.1) (fun J10 =>
        ldI h9 b (0 + 2) .i64 fun t11 => 
        iteP (t11 == 0) (
          ldI h9 b (0 + 3) .i64 fun t12 => 
          bindB (t12 == 0) fun none => 
          J10 (none, ()) h9) (
          J10 (false, ()) h9))) s.1) (fun J2 =>
    ldI h1 b (0 + 2) .i64 fun t => 
    f_spillwayref19_in t 1 1099511627776 (fun t3 h4 =>
      iteP t3 (
        ldI h4 b (0 + 3) .i64 fun t5 => 
        f_spillwayref19_in t5 1 1099511627776 (fun t6 h7 =>
          bindB t6 fun flow => 
          J2 (flow, ()) h7) h4) (
        J2 (false, ()) h4)) h1)

def m_spillwayref19_Right (r : Int × Int × Int × Int × ByteArray × Int × Unit) (K : Bool → Heap → Prop) (h : Heap) : Prop := g_spillwayref19_Right m_spillwayref19_in m_spillwayref07_IsName r K h

/-- spillwayref19.eight -/
def g_spillwayref19_eight (n : Int) (K : Sl → Heap → Prop) (h : Heap) : Prop :=
  bindI 56 fun i => 
  loopM (σ := Sl × Int × Unit) (fun J2 s h3 =>
    (fun (out : Sl) (i1 : Int) =>
      iteP (decide (i1 ≥ 0)) (
        need (0 ≤ i1) <| 
        newC h3 [Value.int .u8 (IntKind.wrap .u8 (shrV .i64 n i1))] 5 fun b h4 => 
        rdS ⟨some ⟨b, 0, none⟩, 1, 1⟩ 1 h4 fun new => app 5 1 1 [Value.int .u8 0] out 1 new h4 fun t h5 => 
        bindI (IntKind.wrap .i64 (i1 - 8)) fun i6 => 
        J2 (t, i6, ()) h5) (
        K out h3)) s.1 s.2.1) (⟨none, 0, 0⟩, i, ()) h

def m_spillwayref19_eight (n : Int) (K : Sl → Heap → Prop) (h : Heap) : Prop := g_spillwayref19_eight n K h

/-- spillwayref19.Request -/
def g_spillwayref19_Request (f_spillwayref19_Right : (Int × Int × Int × Int × ByteArray × Int × Unit) → (Bool → Heap → Prop) → Heap → Prop) (f_spillwayref19_eight : Int → (Sl → Heap → Prop) → Heap → Prop) (r : Int × Int × Int × Int × ByteArray × Int × Unit) (K : Sl → Int → Heap → Prop) (h : Heap) : Prop :=
  newC h [Value.int .i64 r.1, Value.int .u8 r.2.1, Value.int .i64 r.2.2.1, Value.int .i64 r.2.2.2.1, Value.string r.2.2.2.2.1, Value.int .i64 r.2.2.2.2.2.1] 39 fun b h1 => 
  bindI 0 fun t => 
  ldI h1 b 0 .i64 fun t2 => ldI h1 b (0 + 1) .u8 fun t3 => ldI h1 b (0 + 2) .i64 fun t4 => ldI h1 b (0 + 3) .i64 fun t5 => ldS h1 b (0 + 4) fun t6 => ldI h1 b (0 + 5) .i64 fun t7 => 
  f_spillwayref19_Right (t2, t3, t4, t5, t6, t7, ()) (fun t8 h9 =>
    iteP (!t8) (
      bindI 6 fun t10 => 
      K ⟨none, 0, 0⟩ t10 h9) (
      ldI h9 b (0 + 1) .u8 fun t11 => 
      newC h9 [Value.int .u8 t11] 5 fun b12 h13 => 
      ldI h13 b 0 .i64 fun t14 => 
      f_spillwayref19_eight t14 (fun t15 h16 =>
        rdS t15 1 h16 fun new => app 5 1 1 [Value.int .u8 0] ⟨some ⟨b12, 0, none⟩, 1, 1⟩ t15.len new h16 fun t17 h18 => 
        ldI h18 b (0 + 2) .i64 fun t19 => 
        f_spillwayref19_eight t19 (fun t20 h21 =>
          rdS t20 1 h21 fun new24 => app 5 1 1 [Value.int .u8 0] t17 t20.len new24 h21 fun t22 h23 => 
          ldI h23 b (0 + 3) .i64 fun t25 => 
          f_spillwayref19_eight t25 (fun t26 h27 =>
            rdS t26 1 h27 fun new30 => app 5 1 1 [Value.int .u8 0] t22 t26.len new30 h27 fun t28 h29 => 
            ldI h29 b (0 + 5) .i64 fun t31 => 
            f_spillwayref19_eight t31 (fun t32 h33 =>
              rdS t32 1 h33 fun new36 => app 5 1 1 [Value.int .u8 0] t28 t32.len new36 h33 fun t34 h35 => 
              ldS h35 b (0 + 4) fun t37 => 
              newC h35 [Value.int .u8 (IntKind.wrap .u8 (t37.size : Int))] 5 fun b38 h39 => 
              rdS ⟨some ⟨b38, 0, none⟩, 1, 1⟩ 1 h39 fun new42 => app 5 1 1 [Value.int .u8 0] t34 1 new42 h39 fun t40 h41 => 
              ldS h41 b (0 + 4) fun t43 => 
              app 5 1 1 [Value.int .u8 0] t40 t43.size (byteVals t43) h41 fun t44 h45 => 
              bindI 0 fun t46 => 
              K t44 t46 h45) h29) h23) h18) h13)) h1

def m_spillwayref19_Request (r : Int × Int × Int × Int × ByteArray × Int × Unit) (K : Sl → Int → Heap → Prop) (h : Heap) : Prop := g_spillwayref19_Request m_spillwayref19_Right m_spillwayref19_eight r K h

/-- spillwayref18.Frame -/
def g_spillwayref18_Frame (payload : Sl) (K : Sl → Int → Heap → Prop) (h : Heap) : Prop :=
  bindI 0 fun t => 
  bindI (payload.len : Int) fun n => 
  bindB (decide (n > 4096)) fun t1 => 
  iteP t1 (
    bindI 5 fun t2 => 
    K ⟨none, 0, 0⟩ t2 h) (
    bindB (n == 0) fun t3 => 
    iteP t3 (
      bindI 6 fun t4 => 
      K ⟨none, 0, 0⟩ t4 h) (
      need (0 ≤ (8 : Int)) <| 
      newC h [Value.int .u8 0, Value.int .u8 0, Value.int .u8 (IntKind.wrap .u8 (shrV .i64 n 8)), Value.int .u8 (IntKind.wrap .u8 n)] 5 fun b h5 => 
      rdS payload 1 h5 fun new => app 5 1 1 [Value.int .u8 0] ⟨some ⟨b, 0, none⟩, 4, 4⟩ payload.len new h5 fun t6 h7 => 
      bindI 0 fun t8 => 
      K t6 t8 h7))

def m_spillwayref18_Frame (payload : Sl) (K : Sl → Int → Heap → Prop) (h : Heap) : Prop := g_spillwayref18_Frame payload K h

/-- (*spillwayref21.Client).send -/
def g_spillwayref21_Client_send (f_spillwayref19_Request : (Int × Int × Int × Int × ByteArray × Int × Unit) → (Sl → Int → Heap → Prop) → Heap → Prop) (f_spillwayref18_Frame : Sl → (Sl → Int → Heap → Prop) → Heap → Prop) (c : Option Addr) (r : Int × Int × Int × Int × ByteArray × Int × Unit) (K : Heap → Prop) (h : Heap) : Prop :=
  newC h [Value.int .i64 r.1, Value.int .u8 r.2.1, Value.int .i64 r.2.2.1, Value.int .i64 r.2.2.2.1, Value.string r.2.2.2.2.1, Value.int .i64 r.2.2.2.2.2.1] 39 fun b h1 => 
  ldI h1 b 0 .i64 fun t => ldI h1 b (0 + 1) .u8 fun t2 => ldI h1 b (0 + 2) .i64 fun t3 => ldI h1 b (0 + 3) .i64 fun t4 => ldS h1 b (0 + 4) fun t5 => ldI h1 b (0 + 5) .i64 fun t6 => 
  f_spillwayref19_Request (t, t2, t3, t4, t5, t6, ()) (fun t7 t8 h9 =>
    bindI t8 fun _ => 
    f_spillwayref18_Frame t7 (fun t10 t11 h12 =>
      bindI t11 fun _13 => 
      derefP c fun b14 o => 
      ldL h12 b14 (o + 7) fun t15 => 
      rdS t15 1 h12 fun new => app 5 1 1 [Value.int .u8 0] ⟨none, 0, 0⟩ t15.len new h12 fun t16 h17 => 
      rdS t10 1 h17 fun new20 => app 5 1 1 [Value.int .u8 0] t16 t10.len new20 h17 fun t18 h19 => 
      derefP c fun b21 o22 => 
      st h19 b21 (o22 + 7) (Value.slice t18.ptr t18.len t18.cap) fun h23 => 
      K h23) h9) h1

def m_spillwayref21_Client_send (c : Option Addr) (r : Int × Int × Int × Int × ByteArray × Int × Unit) (K : Heap → Prop) (h : Heap) : Prop := g_spillwayref21_Client_send m_spillwayref19_Request m_spillwayref18_Frame c r K h

/-- (*spillwayref21.Client).Ask -/
def g_spillwayref21_Client_Ask (f_spillwayref21_Client_Tick : (Option Addr) → Int → (Int → Heap → Prop) → Heap → Prop) (f_spillwayref19_Right : (Int × Int × Int × Int × ByteArray × Int × Unit) → (Bool → Heap → Prop) → Heap → Prop) (f_spillwayref21_Client_send : (Option Addr) → (Int × Int × Int × Int × ByteArray × Int × Unit) → (Heap → Prop) → Heap → Prop) (c : Option Addr) (at_ : Int) (r : Int × Int × Int × Int × ByteArray × Int × Unit) (K : Int → Bool → Int → Heap → Prop) (h : Heap) : Prop :=
  newC h [Value.int .i64 r.1, Value.int .u8 r.2.1, Value.int .i64 r.2.2.1, Value.int .i64 r.2.2.2.1, Value.string r.2.2.2.2.1, Value.int .i64 r.2.2.2.2.2.1] 39 fun b h1 => 
  bindI 0 fun t => 
  bindI 0 fun t2 => 
  f_spillwayref21_Client_Tick c at_ (fun t3 h4 =>
    bindI t3 fun e => 
    iteP (e != 0) (
      bindI 0 fun t5 => 
      bindI e fun t6 => 
      K t5 false t6 h4) (
      st h4 b 0 (Value.int .i64 0) fun h7 => 
      ldI h7 b 0 .i64 fun t8 => ldI h7 b (0 + 1) .u8 fun t9 => ldI h7 b (0 + 2) .i64 fun t10 => ldI h7 b (0 + 3) .i64 fun t11 => ldS h7 b (0 + 4) fun t12 => ldI h7 b (0 + 5) .i64 fun t13 => 
      f_spillwayref19_Right (t8, t9, t10, t11, t12, t13, ()) (fun t14 h15 =>
        iteP (!t14) (
          bindI 0 fun t16 => 
          bindI 6 fun t17 => 
          K t16 false t17 h15) (
          ldI h15 b (0 + 1) .u8 fun t18 => 
          iteP (t18 == 5) (
            bindI 0 fun t19 => 
            bindI 6 fun t20 => 
            K t19 false t20 h15) (
            derefP c fun b21 o => 
            ldB h15 b21 (o + 4) fun t22 => 
            iteP (!t22) (
              bindI 0 fun t23 => 
              bindI 0 fun t24 => 
              K t23 true t24 h15) (
              derefP c fun b25 o26 => 
              ldL h15 b25 (o26 + 5) fun t27 => 
              iteP (decide ((t27.len : Int) ≥ 256)) (
                bindI 0 fun t28 => 
                bindI 0 fun t29 => 
                K t28 true t29 h15) (
                derefP c fun b30 o31 => 
                ldI h15 b30 (o31 + 6) .i64 fun t32 => 
                derefP c fun b33 o34 => 
                st h15 b33 (o34 + 6) (Value.int .i64 (IntKind.wrap .i64 (t32 + 1))) fun h35 => 
                derefP c fun b36 o37 => 
                ldI h35 b36 (o37 + 6) .i64 fun t38 => 
                st h35 b 0 (Value.int .i64 t38) fun h39 => 
                derefP c fun b40 o41 => 
                ldL h39 b40 (o41 + 5) fun t42 => 
                ldI h39 b 0 .i64 fun t43 => 
                newC h39 [Value.int .i64 t43, Value.int .i64 at_] 86 fun b44 h45 => 
                need (heldL h45 [(b, 0, Value.int .i64 t43)]) <|
                need (heldL h45 [(b40, o41 + 5, Value.slice t42.ptr t42.len t42.cap)]) <|
                rdS ⟨some ⟨b44, 0, none⟩, 1, 1⟩ 2 h45 fun new => app 86 2 16 [Value.int .i64 0, Value.int .i64 0] t42 1 new h45 fun t46 h47 => 
                need (heldL h47 [(b, 0, Value.int .i64 t43)]) <|
                derefP c fun b48 o49 => 
                st h47 b48 (o49 + 5) (Value.slice t46.ptr t46.len t46.cap) fun h50 => 
                ldI h50 b 0 .i64 fun t51 => ldI h50 b (0 + 1) .u8 fun t52 => ldI h50 b (0 + 2) .i64 fun t53 => ldI h50 b (0 + 3) .i64 fun t54 => ldS h50 b (0 + 4) fun t55 => ldI h50 b (0 + 5) .i64 fun t56 => 
                f_spillwayref21_Client_send c (t51, t52, t53, t54, t55, t56, ()) (fun h57 =>
                  ldI h57 b 0 .i64 fun t58 => 
                  bindI t58 fun t59 => 
                  bindI 0 fun t60 => 
                  K t59 false t60 h57) h50))))) h7)) h1

def m_spillwayref21_Client_Ask (c : Option Addr) (at_ : Int) (r : Int × Int × Int × Int × ByteArray × Int × Unit) (K : Int → Bool → Int → Heap → Prop) (h : Heap) : Prop := g_spillwayref21_Client_Ask m_spillwayref21_Client_Tick m_spillwayref19_Right m_spillwayref21_Client_send c at_ r K h

/-- (*client.Client).Dial$1 -/
def g_client_Client_Dial_1 (a0 : Option Addr) (a1 : Option Addr) (a2 : Option Addr) (K : Int → Heap → Prop) (h : Heap) : Prop :=
  bindI 0 fun t => 
  derefP a0 fun b o => ldP h b o fun t1 => 
  derefP t1 fun b2 o3 => 
  ldB h b2 (o3 + 5) fun t4 => 
  iteP (!t4) (
    derefP a1 fun b5 o6 => ldI h b5 o6 .i64 fun t7 => 
    derefP a0 fun b8 o9 => ldP h b8 o9 fun t10 => 
    derefP t10 fun b11 o12 => 
    ldI h b11 (o12 + 11) .i64 fun t13 => 
    derefP a2 fun b14 o15 => st h b14 o15 (Value.bool (decide (t7 ≥ t13))) fun h16 => 
    bindI 0 fun t17 => 
    K t17 h16) (
    derefP a2 fun b18 o19 => st h b18 o19 (Value.bool false) fun h20 => 
    bindI 0 fun t21 => 
    K t21 h20)

def m_client_Client_Dial_1 (a0 : Option Addr) (a1 : Option Addr) (a2 : Option Addr) (K : Int → Heap → Prop) (h : Heap) : Prop := g_client_Client_Dial_1 a0 a1 a2 K h

/-- (*client.Client).at -/
def g_client_Client_at__client_Client_Dial_1 (f_client_Client_Waiting : (Option Addr) → (Sl → Heap → Prop) → Heap → Prop) (f_client_Client_fall : (Option Addr) → Int → (Heap → Prop) → Heap → Prop) (f_client_Client_Dial_1 : (Option Addr) → (Option Addr) → (Option Addr) → (Int → Heap → Prop) → Heap → Prop) (c : Option Addr) (at_ : Int) (then_ : Option Addr × Option Addr × Option Addr × Unit) (K : Int → Heap → Prop) (h : Heap) : Prop :=
  bindI 0 fun t => 
  bindB c.isNone fun t1 => 
  iteP t1 (
    bindI 1 fun t2 => 
    K t2 h) (
    iteP (decide (at_ < 0)) (
      bindI 2 fun t3 => 
      K t3 h) (
      bindB (decide (at_ > 1152921504606846976)) fun t4 => 
      iteP t4 (
        bindI 2 fun t5 => 
        K t5 h) (
        derefP c fun b o => 
        ldI h b (o + 6) .i64 fun t6 => 
        bindB (decide (at_ < t6)) fun t7 => 
        iteP t7 (
          bindI 7 fun t8 => 
          K t8 h) (
          derefP c fun b9 o10 => 
          st h b9 (o10 + 6) (Value.int .i64 at_) fun h11 => 
          f_client_Client_Waiting c (fun t12 h13 =>
            loopM (σ := Int × Unit) (fun J14 s h15 =>
              (fun (s33 : Int) =>
                iteP (decide (s33 < (t12.len : Int))) (
                  idxA t12.ptr t12.len s33 1 fun b16 o17 => 
                  ldI h15 b16 o17 .i64 fun t18 => 
                  bindI t18 fun id => 
                  derefP c fun b19 o20 => 
                  derefP c fun b21 o22 => 
                  ldM h15 b19 (o20 + 8) fun t23 => 
                  ldI h15 b21 (o22 + 1) .i64 fun t24 => 
                  mapGet (.int .i64) h15 t23 (Value.int .i64 id) fun r => asI (r.getD (Value.int .i64 0)) .i64 fun t25 => 
                  need (heldL h15 [(b21, o22 + 1, Value.int .i64 t24)]) <|
                  iteP (decide ((IntKind.wrap .i64 (at_ - t25)) ≥ t24)) (
                    f_client_Client_fall c id (fun h26 =>
                      J14 (IntKind.wrap .i64 (s33 + 1), ()) h26) h15) (
                    J14 (IntKind.wrap .i64 (s33 + 1), ()) h15)) (
                  f_client_Client_Dial_1 then_.1 then_.2.1 then_.2.2.1 (fun t27 h28 =>
                    bindI t27 fun t29 => 
                    K t29 h28) h15)) s.1) (0, ()) h13) h11))))

def m_client_Client_at__client_Client_Dial_1 (c : Option Addr) (at_ : Int) (then_ : Option Addr × Option Addr × Option Addr × Unit) (K : Int → Heap → Prop) (h : Heap) : Prop := g_client_Client_at__client_Client_Dial_1 m_client_Client_Waiting m_client_Client_fall m_client_Client_Dial_1 c at_ then_ K h

/-- (*client.Client).Dial -/
def g_client_Client_Dial (f_client_Client_at__client_Client_Dial_1 : (Option Addr) → Int → (Option Addr × Option Addr × Option Addr × Unit) → (Int → Heap → Prop) → Heap → Prop) (c : Option Addr) (at_ : Int) (K : Bool → Int → Heap → Prop) (h : Heap) : Prop :=
  newC h [Value.pointer c] 25 fun b h1 => 
  newC h1 [Value.int .i64 at_] 3 fun b2 h3 => 
  newC h3 [Value.bool false] 4 fun b4 h5 => 
  bindI 0 fun e => 
  ldP h5 b 0 fun t => 
  ldI h5 b2 0 .i64 fun t6 => 
  f_client_Client_at__client_Client_Dial_1 t t6 (some ⟨b, 0, none⟩, some ⟨b2, 0, none⟩, some ⟨b4, 0, none⟩, ()) (fun t7 h8 =>
    bindI t7 fun e9 => 
    ldB h8 b4 0 fun t10 => 
    st h8 b4 0 (Value.bool t10) fun h11 => 
    bindI e9 fun e12 => 
    ldB h11 b4 0 fun t13 => K t13 e12 h11) h5

def m_client_Client_Dial (c : Option Addr) (at_ : Int) (K : Bool → Int → Heap → Prop) (h : Heap) : Prop := g_client_Client_Dial m_client_Client_at__client_Client_Dial_1 c at_ K h

/-- (*spillwayref21.Client).Dial -/
def g_spillwayref21_Client_Dial (f_spillwayref21_Client_Tick : (Option Addr) → Int → (Int → Heap → Prop) → Heap → Prop) (c : Option Addr) (at_ : Int) (K : Bool → Int → Heap → Prop) (h : Heap) : Prop :=
  bindI 0 fun t => 
  f_spillwayref21_Client_Tick c at_ (fun t1 h2 =>
    bindI t1 fun e => 
    iteP (e != 0) (
      bindI e fun t3 => 
      K false t3 h2) (
      derefP c fun b o => 
      ldB h2 b (o + 4) fun t4 => 
      iteP (!t4) (
        derefP c fun b5 o6 => 
        ldI h2 b5 (o6 + 9) .i64 fun t7 => 
        bindB (decide (at_ ≥ t7)) fun t8 => 
        bindI 0 fun t9 => 
        K t8 t9 h2) (
        bindI 0 fun t10 => 
        K false t10 h2))) h

def m_spillwayref21_Client_Dial (c : Option Addr) (at_ : Int) (K : Bool → Int → Heap → Prop) (h : Heap) : Prop := g_spillwayref21_Client_Dial m_spillwayref21_Client_Tick c at_ K h

/-- (*spillwayref21.Client).Up -/
def g_spillwayref21_Client_Up (f_spillwayref21_Client_Tick : (Option Addr) → Int → (Int → Heap → Prop) → Heap → Prop) (f_spillwayref21_Client_send : (Option Addr) → (Int × Int × Int × Int × ByteArray × Int × Unit) → (Heap → Prop) → Heap → Prop) (c : Option Addr) (at_ : Int) (K : Int → Heap → Prop) (h : Heap) : Prop :=
  bindI 0 fun t => 
  f_spillwayref21_Client_Tick c at_ (fun t1 h2 =>
    bindI t1 fun e => 
    iteP (e != 0) (
      bindI e fun t3 => 
      K t3 h2) (
      derefP c fun b o => 
      ldB h2 b (o + 4) fun t4 => 
      iteP t4 (
        bindI 52 fun t5 => 
        K t5 h2) (
        derefP c fun b6 o7 => 
        st h2 b6 (o7 + 4) (Value.bool true) fun h8 => 
        derefP c fun b9 o10 => 
        ldI h8 b9 (o10 + 1) .i64 fun t11 => 
        derefP c fun b12 o13 => 
        st h8 b12 (o13 + 10) (Value.int .i64 t11) fun h14 => 
        derefP c fun b15 o16 => 
        ldS h14 b15 (o16 + 3) fun t17 => 
        f_spillwayref21_Client_send c (0, 5, 0, 0, t17, 0, ()) (fun h18 =>
          bindI 0 fun t19 => 
          K t19 h18) h14))) h

def m_spillwayref21_Client_Up (c : Option Addr) (at_ : Int) (K : Int → Heap → Prop) (h : Heap) : Prop := g_spillwayref21_Client_Up m_spillwayref21_Client_Tick m_spillwayref21_Client_send c at_ K h

/-- (*client.Client).failed -/
def g_client_Client_failed (c : Option Addr) (K : Heap → Prop) (h : Heap) : Prop :=
  derefP c fun b o => 
  derefP c fun b1 o2 => 
  ldI h b (o + 6) .i64 fun t => 
  ldI h b1 (o2 + 12) .i64 fun t3 => 
  derefP c fun b4 o5 => 
  st h b4 (o5 + 11) (Value.int .i64 (IntKind.wrap .i64 (t + t3))) fun h6 => 
  derefP c fun b7 o8 => 
  derefP c fun b9 o10 => 
  ldI h6 b7 (o8 + 12) .i64 fun t11 => 
  ldI h6 b9 (o10 + 1 + 2) .i64 fun t12 => 
  derefP c fun b13 o14 => 
  st h6 b13 (o14 + 12) (Value.int .i64 (minV (IntKind.wrap .i64 ((2 : Int) * t11)) t12)) fun h15 => 
  K h15

def m_client_Client_failed (c : Option Addr) (K : Heap → Prop) (h : Heap) : Prop := g_client_Client_failed c K h

/-- (*client.Client).Refused$1 -/
def g_client_Client_Refused_1 (f_client_Client_failed : (Option Addr) → (Heap → Prop) → Heap → Prop) (a0 : Option Addr) (K : Int → Heap → Prop) (h : Heap) : Prop :=
  bindI 0 fun t => 
  derefP a0 fun b o => ldP h b o fun t1 => 
  derefP t1 fun b2 o3 => 
  ldB h b2 (o3 + 5) fun t4 => 
  iteP t4 (
    bindI 52 fun t5 => 
    K t5 h) (
    derefP a0 fun b6 o7 => ldP h b6 o7 fun t8 => 
    f_client_Client_failed t8 (fun h9 =>
      bindI 0 fun t10 => 
      K t10 h9) h)

def m_client_Client_Refused_1 (a0 : Option Addr) (K : Int → Heap → Prop) (h : Heap) : Prop := g_client_Client_Refused_1 m_client_Client_failed a0 K h

/-- (*client.Client).at -/
def g_client_Client_at__client_Client_Refused_1 (f_client_Client_Waiting : (Option Addr) → (Sl → Heap → Prop) → Heap → Prop) (f_client_Client_fall : (Option Addr) → Int → (Heap → Prop) → Heap → Prop) (f_client_Client_Refused_1 : (Option Addr) → (Int → Heap → Prop) → Heap → Prop) (c : Option Addr) (at_ : Int) (then_ : Option Addr × Unit) (K : Int → Heap → Prop) (h : Heap) : Prop :=
  bindI 0 fun t => 
  bindB c.isNone fun t1 => 
  iteP t1 (
    bindI 1 fun t2 => 
    K t2 h) (
    iteP (decide (at_ < 0)) (
      bindI 2 fun t3 => 
      K t3 h) (
      bindB (decide (at_ > 1152921504606846976)) fun t4 => 
      iteP t4 (
        bindI 2 fun t5 => 
        K t5 h) (
        derefP c fun b o => 
        ldI h b (o + 6) .i64 fun t6 => 
        bindB (decide (at_ < t6)) fun t7 => 
        iteP t7 (
          bindI 7 fun t8 => 
          K t8 h) (
          derefP c fun b9 o10 => 
          st h b9 (o10 + 6) (Value.int .i64 at_) fun h11 => 
          f_client_Client_Waiting c (fun t12 h13 =>
            loopM (σ := Int × Unit) (fun J14 s h15 =>
              (fun (s33 : Int) =>
                iteP (decide (s33 < (t12.len : Int))) (
                  idxA t12.ptr t12.len s33 1 fun b16 o17 => 
                  ldI h15 b16 o17 .i64 fun t18 => 
                  bindI t18 fun id => 
                  derefP c fun b19 o20 => 
                  derefP c fun b21 o22 => 
                  ldM h15 b19 (o20 + 8) fun t23 => 
                  ldI h15 b21 (o22 + 1) .i64 fun t24 => 
                  mapGet (.int .i64) h15 t23 (Value.int .i64 id) fun r => asI (r.getD (Value.int .i64 0)) .i64 fun t25 => 
                  need (heldL h15 [(b21, o22 + 1, Value.int .i64 t24)]) <|
                  iteP (decide ((IntKind.wrap .i64 (at_ - t25)) ≥ t24)) (
                    f_client_Client_fall c id (fun h26 =>
                      J14 (IntKind.wrap .i64 (s33 + 1), ()) h26) h15) (
                    J14 (IntKind.wrap .i64 (s33 + 1), ()) h15)) (
                  f_client_Client_Refused_1 then_.1 (fun t27 h28 =>
                    bindI t27 fun t29 => 
                    K t29 h28) h15)) s.1) (0, ()) h13) h11))))

def m_client_Client_at__client_Client_Refused_1 (c : Option Addr) (at_ : Int) (then_ : Option Addr × Unit) (K : Int → Heap → Prop) (h : Heap) : Prop := g_client_Client_at__client_Client_Refused_1 m_client_Client_Waiting m_client_Client_fall m_client_Client_Refused_1 c at_ then_ K h

/-- (*client.Client).Refused -/
def g_client_Client_Refused (f_client_Client_at__client_Client_Refused_1 : (Option Addr) → Int → (Option Addr × Unit) → (Int → Heap → Prop) → Heap → Prop) (c : Option Addr) (at_ : Int) (K : Int → Heap → Prop) (h : Heap) : Prop :=
  newC h [Value.pointer c] 25 fun b h1 => 
  bindI 0 fun t => 
  ldP h1 b 0 fun t2 => 
  f_client_Client_at__client_Client_Refused_1 t2 at_ (some ⟨b, 0, none⟩, ()) (fun t3 h4 =>
    bindI t3 fun t5 => 
    K t5 h4) h1

def m_client_Client_Refused (c : Option Addr) (at_ : Int) (K : Int → Heap → Prop) (h : Heap) : Prop := g_client_Client_Refused m_client_Client_at__client_Client_Refused_1 c at_ K h

/-- (*spillwayref21.Client).later -/
def g_spillwayref21_Client_later (c : Option Addr) (at_ : Int) (K : Heap → Prop) (h : Heap) : Prop :=
  derefP c fun b o => 
  ldI h b (o + 10) .i64 fun t => 
  derefP c fun b1 o2 => 
  st h b1 (o2 + 9) (Value.int .i64 (IntKind.wrap .i64 (at_ + t))) fun h3 => 
  derefP c fun b4 o5 => 
  ldI h3 b4 (o5 + 10) .i64 fun t6 => 
  derefP c fun b7 o8 => 
  st h3 b7 (o8 + 10) (Value.int .i64 (IntKind.wrap .i64 (t6 * 2))) fun h9 => 
  derefP c fun b10 o11 => 
  ldI h9 b10 (o11 + 10) .i64 fun t12 => 
  derefP c fun b13 o14 => 
  ldI h9 b13 (o14 + 2) .i64 fun t15 => 
  iteP (decide (t12 > t15)) (
    derefP c fun b16 o17 => 
    ldI h9 b16 (o17 + 2) .i64 fun t18 => 
    derefP c fun b19 o20 => 
    st h9 b19 (o20 + 10) (Value.int .i64 t18) fun h21 => 
    K h21) (
    K h9)

def m_spillwayref21_Client_later (c : Option Addr) (at_ : Int) (K : Heap → Prop) (h : Heap) : Prop := g_spillwayref21_Client_later c at_ K h

/-- (*spillwayref21.Client).Refused -/
def g_spillwayref21_Client_Refused (f_spillwayref21_Client_Tick : (Option Addr) → Int → (Int → Heap → Prop) → Heap → Prop) (f_spillwayref21_Client_later : (Option Addr) → Int → (Heap → Prop) → Heap → Prop) (c : Option Addr) (at_ : Int) (K : Int → Heap → Prop) (h : Heap) : Prop :=
  bindI 0 fun t => 
  f_spillwayref21_Client_Tick c at_ (fun t1 h2 =>
    bindI t1 fun e => 
    iteP (e != 0) (
      bindI e fun t3 => 
      K t3 h2) (
      derefP c fun b o => 
      ldB h2 b (o + 4) fun t4 => 
      iteP t4 (
        bindI 52 fun t5 => 
        K t5 h2) (
        f_spillwayref21_Client_later c at_ (fun h6 =>
          bindI 0 fun t7 => 
          K t7 h6) h2))) h

def m_spillwayref21_Client_Refused (c : Option Addr) (at_ : Int) (K : Int → Heap → Prop) (h : Heap) : Prop := g_spillwayref21_Client_Refused m_spillwayref21_Client_Tick m_spillwayref21_Client_later c at_ K h

/-- (*frame.Reader).Reset -/
def g_frame_Reader_Reset (r : Option Addr) (K : Heap → Prop) (h : Heap) : Prop :=
  iteP r.isSome (
    derefP r fun b o => 
    st h b o (Value.slice none 0 0) fun h1 => 
    derefP r fun b2 o3 => 
    st h1 b2 (o3 + 1) (Value.bool false) fun h4 => 
    K h4) (
    K h)

def m_frame_Reader_Reset (r : Option Addr) (K : Heap → Prop) (h : Heap) : Prop := g_frame_Reader_Reset r K h

/-- (*client.Client).down -/
def g_client_Client_down (f_client_Client_Waiting : (Option Addr) → (Sl → Heap → Prop) → Heap → Prop) (f_client_Client_fall : (Option Addr) → Int → (Heap → Prop) → Heap → Prop) (f_frame_Reader_Reset : (Option Addr) → (Heap → Prop) → Heap → Prop) (f_client_Client_failed : (Option Addr) → (Heap → Prop) → Heap → Prop) (c : Option Addr) (K : Heap → Prop) (h : Heap) : Prop :=
  derefP c fun b o => 
  st h b (o + 5) (Value.bool false) fun h1 => 
  f_client_Client_Waiting c (fun t h2 =>
    loopM (σ := Int × Unit) (fun J3 s h4 =>
      (fun (s10 : Int) =>
        iteP (decide (s10 < (t.len : Int))) (
          idxA t.ptr t.len s10 1 fun b5 o6 => 
          ldI h4 b5 o6 .i64 fun t7 => 
          bindI t7 fun id => 
          f_client_Client_fall c id (fun h8 =>
            J3 (IntKind.wrap .i64 (s10 + 1), ()) h8) h4) (
          derefP c fun b9 o10 => 
          st h4 b9 (o10 + 9) (Value.slice none 0 0) fun h11 => 
          derefP c fun b12 o13 => 
          ldP h11 b12 o13 fun t14 => 
          f_frame_Reader_Reset t14 (fun h15 =>
            f_client_Client_failed c (fun h16 =>
              K h16) h15) h11)) s.1) (0, ()) h2) h1

def m_client_Client_down (c : Option Addr) (K : Heap → Prop) (h : Heap) : Prop := g_client_Client_down m_client_Client_Waiting m_client_Client_fall m_frame_Reader_Reset m_client_Client_failed c K h

/-- (*client.Client).Lost$1 -/
def g_client_Client_Lost_1 (f_client_Client_down : (Option Addr) → (Heap → Prop) → Heap → Prop) (a0 : Option Addr) (K : Int → Heap → Prop) (h : Heap) : Prop :=
  bindI 0 fun t => 
  derefP a0 fun b o => ldP h b o fun t1 => 
  derefP t1 fun b2 o3 => 
  ldB h b2 (o3 + 5) fun t4 => 
  iteP (!t4) (
    bindI 51 fun t5 => 
    K t5 h) (
    derefP a0 fun b6 o7 => ldP h b6 o7 fun t8 => 
    f_client_Client_down t8 (fun h9 =>
      bindI 0 fun t10 => 
      K t10 h9) h)

def m_client_Client_Lost_1 (a0 : Option Addr) (K : Int → Heap → Prop) (h : Heap) : Prop := g_client_Client_Lost_1 m_client_Client_down a0 K h

/-- (*client.Client).at -/
def g_client_Client_at__client_Client_Lost_1 (f_client_Client_Waiting : (Option Addr) → (Sl → Heap → Prop) → Heap → Prop) (f_client_Client_fall : (Option Addr) → Int → (Heap → Prop) → Heap → Prop) (f_client_Client_Lost_1 : (Option Addr) → (Int → Heap → Prop) → Heap → Prop) (c : Option Addr) (at_ : Int) (then_ : Option Addr × Unit) (K : Int → Heap → Prop) (h : Heap) : Prop :=
  bindI 0 fun t => 
  bindB c.isNone fun t1 => 
  iteP t1 (
    bindI 1 fun t2 => 
    K t2 h) (
    iteP (decide (at_ < 0)) (
      bindI 2 fun t3 => 
      K t3 h) (
      bindB (decide (at_ > 1152921504606846976)) fun t4 => 
      iteP t4 (
        bindI 2 fun t5 => 
        K t5 h) (
        derefP c fun b o => 
        ldI h b (o + 6) .i64 fun t6 => 
        bindB (decide (at_ < t6)) fun t7 => 
        iteP t7 (
          bindI 7 fun t8 => 
          K t8 h) (
          derefP c fun b9 o10 => 
          st h b9 (o10 + 6) (Value.int .i64 at_) fun h11 => 
          f_client_Client_Waiting c (fun t12 h13 =>
            loopM (σ := Int × Unit) (fun J14 s h15 =>
              (fun (s33 : Int) =>
                iteP (decide (s33 < (t12.len : Int))) (
                  idxA t12.ptr t12.len s33 1 fun b16 o17 => 
                  ldI h15 b16 o17 .i64 fun t18 => 
                  bindI t18 fun id => 
                  derefP c fun b19 o20 => 
                  derefP c fun b21 o22 => 
                  ldM h15 b19 (o20 + 8) fun t23 => 
                  ldI h15 b21 (o22 + 1) .i64 fun t24 => 
                  mapGet (.int .i64) h15 t23 (Value.int .i64 id) fun r => asI (r.getD (Value.int .i64 0)) .i64 fun t25 => 
                  need (heldL h15 [(b21, o22 + 1, Value.int .i64 t24)]) <|
                  iteP (decide ((IntKind.wrap .i64 (at_ - t25)) ≥ t24)) (
                    f_client_Client_fall c id (fun h26 =>
                      J14 (IntKind.wrap .i64 (s33 + 1), ()) h26) h15) (
                    J14 (IntKind.wrap .i64 (s33 + 1), ()) h15)) (
                  f_client_Client_Lost_1 then_.1 (fun t27 h28 =>
                    bindI t27 fun t29 => 
                    K t29 h28) h15)) s.1) (0, ()) h13) h11))))

def m_client_Client_at__client_Client_Lost_1 (c : Option Addr) (at_ : Int) (then_ : Option Addr × Unit) (K : Int → Heap → Prop) (h : Heap) : Prop := g_client_Client_at__client_Client_Lost_1 m_client_Client_Waiting m_client_Client_fall m_client_Client_Lost_1 c at_ then_ K h

/-- (*client.Client).Lost -/
def g_client_Client_Lost (f_client_Client_at__client_Client_Lost_1 : (Option Addr) → Int → (Option Addr × Unit) → (Int → Heap → Prop) → Heap → Prop) (c : Option Addr) (at_ : Int) (K : Int → Heap → Prop) (h : Heap) : Prop :=
  newC h [Value.pointer c] 25 fun b h1 => 
  bindI 0 fun t => 
  ldP h1 b 0 fun t2 => 
  f_client_Client_at__client_Client_Lost_1 t2 at_ (some ⟨b, 0, none⟩, ()) (fun t3 h4 =>
    bindI t3 fun t5 => 
    K t5 h4) h1

def m_client_Client_Lost (c : Option Addr) (at_ : Int) (K : Int → Heap → Prop) (h : Heap) : Prop := g_client_Client_Lost m_client_Client_at__client_Client_Lost_1 c at_ K h

/-- (*spillwayref21.Client).down -/
def g_spillwayref21_Client_down (f_spillwayref21_Client_fall : (Option Addr) → Int → (Heap → Prop) → Heap → Prop) (f_spillwayref18_New : ((Option Addr) → Heap → Prop) → Heap → Prop) (f_spillwayref21_Client_later : (Option Addr) → Int → (Heap → Prop) → Heap → Prop) (c : Option Addr) (at_ : Int) (K : Heap → Prop) (h : Heap) : Prop :=
  derefP c fun b o => 
  st h b (o + 4) (Value.bool false) fun h1 => 
  loopM (σ := Unit) (fun J2 s h3 =>
    derefP c fun b4 o5 => 
    ldL h3 b4 (o5 + 5) fun t => 
    iteP (decide ((t.len : Int) > 0)) (
      f_spillwayref21_Client_fall c 0 (fun h6 =>
        J2 (()) h6) h3) (
      derefP c fun b7 o8 => 
      st h3 b7 (o8 + 7) (Value.slice none 0 0) fun h9 => 
      f_spillwayref18_New (fun t10 h11 =>
        derefP c fun b12 o13 => 
        st h11 b12 (o13 + 11) (Value.pointer t10) fun h14 => 
        f_spillwayref21_Client_later c at_ (fun h15 =>
          K h15) h14) h9)) (()) h1

def m_spillwayref21_Client_down (c : Option Addr) (at_ : Int) (K : Heap → Prop) (h : Heap) : Prop := g_spillwayref21_Client_down m_spillwayref21_Client_fall m_spillwayref18_New m_spillwayref21_Client_later c at_ K h

/-- (*spillwayref21.Client).Lost -/
def g_spillwayref21_Client_Lost (f_spillwayref21_Client_Tick : (Option Addr) → Int → (Int → Heap → Prop) → Heap → Prop) (f_spillwayref21_Client_down : (Option Addr) → Int → (Heap → Prop) → Heap → Prop) (c : Option Addr) (at_ : Int) (K : Int → Heap → Prop) (h : Heap) : Prop :=
  bindI 0 fun t => 
  f_spillwayref21_Client_Tick c at_ (fun t1 h2 =>
    bindI t1 fun e => 
    iteP (e != 0) (
      bindI e fun t3 => 
      K t3 h2) (
      derefP c fun b o => 
      ldB h2 b (o + 4) fun t4 => 
      iteP (!t4) (
        bindI 51 fun t5 => 
        K t5 h2) (
        f_spillwayref21_Client_down c at_ (fun h6 =>
          bindI 0 fun t7 => 
          K t7 h6) h2))) h

def m_spillwayref21_Client_Lost (c : Option Addr) (at_ : Int) (K : Int → Heap → Prop) (h : Heap) : Prop := g_spillwayref21_Client_Lost m_spillwayref21_Client_Tick m_spillwayref21_Client_down c at_ K h

/-- spillwaymem.Hand -/
def g_spillwaymem_Hand (l : Sl) (K : Sl → Heap → Prop) (h : Heap) : Prop :=
  mkS 5 1 [Value.int .u8 0] (IntKind.wrap .i64 ((l.len : Int) + 9)) (IntKind.wrap .i64 ((l.len : Int) + 9)) h fun t h1 => 
  bindI 0 fun i => 
  loopM (σ := Int × Unit) (fun J3 s h4 =>
    (fun (i2 : Int) =>
      iteP (decide (i2 < (l.len : Int))) (
        idxA l.ptr l.len i2 1 fun b o => 
        ldI h4 b o .u8 fun t5 => 
        idxA t.ptr t.len i2 1 fun b6 o7 => 
        st h4 b6 o7 (Value.int .u8 t5) fun h8 => 
        bindI (IntKind.wrap .i64 (i2 + 1)) fun i9 => 
        J3 (i9, ()) h8) (
        bindI (l.len : Int) fun i10 => 
        loopM (σ := Int × Unit) (fun J12 s13 h14 =>
          (fun (i11 : Int) =>
            iteP (decide (i11 < (t.len : Int))) (
              idxA t.ptr t.len i11 1 fun b15 o16 => 
              st h14 b15 o16 (Value.int .u8 (IntKind.wrap .u8 (IntKind.wrap .i64 ((IntKind.wrap .i64 ((160 : Int) + i11)) - (l.len : Int))))) fun h17 => 
              bindI (IntKind.wrap .i64 (i11 + 1)) fun i18 => 
              J12 (i18, ()) h17) (
              slc t.ptr t.cap 1 0 (l.len : Int) t.cap fun t19 => 
              K t19 h14)) s13.1) (i10, ()) h4)) s.1) (i, ()) h1

def m_spillwaymem_Hand (l : Sl) (K : Sl → Heap → Prop) (h : Heap) : Prop := g_spillwaymem_Hand l K h

/-- frame.length -/
def g_frame_length (b : Sl) (K : Int → Bool → Heap → Prop) (h : Heap) : Prop :=
  bindI 0 fun t => 
  bindI 0 fun n => 
  slc b.ptr b.cap 1 0 (minV 4 (b.len : Int)) b.cap fun t1 => 
  loopM (σ := Int × Int × Unit) (fun J3 s h4 =>
    (fun (n2 : Int) (s13 : Int) =>
      iteP (decide (s13 < (t1.len : Int))) (
        idxA t1.ptr t1.len s13 1 fun b5 o => 
        ldI h4 b5 o .u8 fun t6 => 
        bindI t6 fun c => 
        need (0 ≤ (8 : Int)) <| 
        bindI (orV .i64 (shlV .i64 n2 8) (IntKind.wrap .i64 c)) fun n7 => 
        J3 (n7, IntKind.wrap .i64 (s13 + 1), ()) h4) (
        cutP (σ := Unit) (fun s27 h28 =>
          iteP (decide (n2 ≥ 1)) (
            bindI n2 fun t29 => 
            bindB (decide (n2 ≤ 4096)) fun t30 => 
            K t29 t30 h28) (
            bindI n2 fun t31 => 
            K t31 false h28)) (fun J8 =>
          bindB ((b.len : Int) == 0) fun t9 => 
          iteP t9 (
            iteP t9 (
              bindI n2 fun t10 => 
              bindB (n2 == 0) fun t11 => 
              K t10 t11 h4) (
              bindB ((b.len : Int) == 3) fun t12 => 
              iteP t12 (
                bindI n2 fun t13 => 
                bindB (decide (n2 ≤ 16)) fun t14 => 
                K t13 t14 h4) (
                J8 (()) h4))) (
            bindB ((b.len : Int) == 1) fun t15 => 
            iteP t15 (
              iteP t15 (
                bindI n2 fun t16 => 
                bindB (n2 == 0) fun t17 => 
                K t16 t17 h4) (
                bindB ((b.len : Int) == 3) fun t18 => 
                iteP t18 (
                  bindI n2 fun t19 => 
                  bindB (decide (n2 ≤ 16)) fun t20 => 
                  K t19 t20 h4) (
                  J8 (()) h4))) (
              bindB ((b.len : Int) == 2) fun t21 => 
              iteP t21 (
                bindI n2 fun t22 => 
                bindB (n2 == 0) fun t23 => 
                K t22 t23 h4) (
                bindB ((b.len : Int) == 3) fun t24 => 
                iteP t24 (
                  bindI n2 fun t25 => 
                  bindB (decide (n2 ≤ 16)) fun t26 => 
                  K t25 t26 h4) (
                  J8 (()) h4))))))) s.1 s.2.1) (n, 0, ()) h

def m_frame_length (b : Sl) (K : Int → Bool → Heap → Prop) (h : Heap) : Prop := g_frame_length b K h

/-- (*frame.Reader).Put -/
def g_frame_Reader_Put (f_bytes_Clone : Sl → (Sl → Heap → Prop) → Heap → Prop) (f_frame_length : Sl → (Int → Bool → Heap → Prop) → Heap → Prop) (r : Option Addr) (b : Sl) (K : Sl → Int → Heap → Prop) (h : Heap) : Prop :=
  bindI 0 fun t => 
  bindB r.isNone fun t1 => 
  iteP t1 (
    bindI 1 fun t2 => 
    K ⟨none, 0, 0⟩ t2 h) (
    derefP r fun b3 o => 
    ldB h b3 (o + 1) fun t4 => 
    bindB t4 fun t5 => 
    iteP t5 (
      bindI 50 fun t6 => 
      K ⟨none, 0, 0⟩ t6 h) (
      derefP r fun b7 o8 => 
      ldL h b7 o8 fun t9 => 
      f_bytes_Clone t9 (fun t10 h11 =>
        rdS b 1 h11 fun new => app 5 1 1 [Value.int .u8 0] t10 b.len new h11 fun t12 h13 => 
        cutP (σ := Sl × Sl × Unit) (fun s38 h39 =>
          (fun (all36 : Sl) (out37 : Sl) =>
            derefP r fun b40 o41 => 
            st h39 b40 o41 (Value.slice all36.ptr all36.len all36.cap) fun h42 => 
            bindI 0 fun t43 => 
            K out37 t43 h42) s38.1 s38.2.1) (fun J14 =>
          loopM (σ := Sl × Sl × Unit) (fun J15 s h16 =>
            (fun (all : Sl) (out : Sl) =>
              iteP (decide ((all.len : Int) ≥ 4)) (
                f_frame_length all (fun t17 t18 h19 =>
                  bindI t17 fun n => 
                  bindB t18 fun ok => 
                  iteP (!ok) (
                    derefP r fun b20 o21 => 
                    st h19 b20 o21 (Value.slice none 0 0) fun h22 => 
                    derefP r fun b23 o24 => 
                    st h22 b23 (o24 + 1) (Value.bool true) fun h25 => 
                    bindI 50 fun t26 => 
                    K out t26 h25) (
                    iteP (decide ((IntKind.wrap .i64 ((all.len : Int) - 4)) < n)) (
                      J14 (all, out, ()) h19) (
                      slc all.ptr all.cap 1 4 (IntKind.wrap .i64 ((4 : Int) + n)) all.cap fun t27 => 
                      f_bytes_Clone t27 (fun t28 h29 =>
                        newC h29 [Value.slice t28.ptr t28.len t28.cap] 40 fun b30 h31 => 
                        rdS ⟨some ⟨b30, 0, none⟩, 1, 1⟩ 1 h31 fun new34 => app 40 1 24 [Value.slice none 0 0] out 1 new34 h31 fun t32 h33 => 
                        slc all.ptr all.cap 1 (IntKind.wrap .i64 ((4 : Int) + n)) all.len all.cap fun t35 => 
                        J15 (t35, t32, ()) h33) h19))) h16) (
                J14 (all, out, ()) h16)) s.1 s.2.1) (t12, ⟨none, 0, 0⟩, ()) h13)) h))

def m_frame_Reader_Put (r : Option Addr) (b : Sl) (K : Sl → Int → Heap → Prop) (h : Heap) : Prop := g_frame_Reader_Put m_bytes_Clone m_frame_length r b K h

/-- (*proto.reader).take -/
def g_proto_reader_take (r : Option Addr) (n : Int) (K : Sl → Heap → Prop) (h : Heap) : Prop :=
  cutP (σ := Unit) (fun s h20 =>
    derefP r fun b21 o22 => 
    ldI h20 b21 (o22 + 1) .i64 fun t23 => 
    derefP r fun b24 o25 => 
    st h20 b24 (o25 + 1) (Value.int .i64 (IntKind.wrap .i64 (t23 + n))) fun h26 => 
    derefP r fun b27 o28 => 
    ldL h26 b27 o28 fun t29 => 
    derefP r fun b30 o31 => 
    ldI h26 b30 (o31 + 1) .i64 fun t32 => 
    derefP r fun b33 o34 => 
    ldI h26 b33 (o34 + 1) .i64 fun t35 => 
    slc t29.ptr t29.cap 1 (IntKind.wrap .i64 (t32 - n)) t35 t29.cap fun t36 => 
    K t36 h26) (fun J1 =>
    derefP r fun b o => 
    ldB h b (o + 2) fun t => 
    iteP t (
      derefP r fun b2 o3 => 
      st h b2 (o3 + 2) (Value.bool true) fun h4 => 
      derefP r fun b5 o6 => 
      ldB h4 b5 (o6 + 2) fun t7 => 
      iteP t7 (
        K ⟨none, 0, 0⟩ h4) (
        J1 (()) h4)) (
      derefP r fun b8 o9 => 
      derefP r fun b10 o11 => 
      ldL h b8 o9 fun t12 => 
      ldI h b10 (o11 + 1) .i64 fun t13 => 
      derefP r fun b14 o15 => 
      st h b14 (o15 + 2) (Value.bool (decide ((IntKind.wrap .i64 ((t12.len : Int) - t13)) < n))) fun h16 => 
      derefP r fun b17 o18 => 
      ldB h16 b17 (o18 + 2) fun t19 => 
      iteP t19 (
        K ⟨none, 0, 0⟩ h16) (
        J1 (()) h16)))

def m_proto_reader_take (r : Option Addr) (n : Int) (K : Sl → Heap → Prop) (h : Heap) : Prop := g_proto_reader_take r n K h

/-- (*proto.reader).number -/
def g_proto_reader_number (f_proto_reader_take : (Option Addr) → Int → (Sl → Heap → Prop) → Heap → Prop) (r : Option Addr) (bytes : Int) (K : Int → Heap → Prop) (h : Heap) : Prop :=
  bindI 0 fun t => 
  bindI 0 fun n => 
  f_proto_reader_take r bytes (fun t1 h2 =>
    loopM (σ := Int × Int × Unit) (fun J4 s h5 =>
      (fun (n3 : Int) (s12 : Int) =>
        iteP (decide (s12 < (t1.len : Int))) (
          idxA t1.ptr t1.len s12 1 fun b o => 
          ldI h5 b o .u8 fun t6 => 
          bindI t6 fun c => 
          need (0 ≤ (8 : Int)) <| 
          bindI (orV .u64 (shlV .u64 n3 8) (IntKind.wrap .u64 c)) fun n7 => 
          J4 (n7, IntKind.wrap .i64 (s12 + 1), ()) h5) (
          bindI (IntKind.wrap .i64 n3) fun t8 => 
          K t8 h5)) s.1 s.2.1) (n, 0, ()) h2) h

def m_proto_reader_number (r : Option Addr) (bytes : Int) (K : Int → Heap → Prop) (h : Heap) : Prop := g_proto_reader_number m_proto_reader_take r bytes K h

/-- proto.RightAnswer -/
def g_proto_RightAnswer (f_proto_from : Int → Int → Int → (Bool → Heap → Prop) → Heap → Prop) (a : Int × Int × Int × Int × Int × Unit) (K : Bool → Heap → Prop) (h : Heap) : Prop :=
  newC h [Value.int .i64 a.1, Value.int .u8 a.2.1, Value.int .i64 a.2.2.1, Value.int .i64 a.2.2.2.1, Value.int .i64 a.2.2.2.2.1] 67 fun b h1 => 
  ldI h1 b 0 .i64 fun t => 
  f_proto_from t 0 2147483647 (fun t2 h3 =>
    iteP t2 (
      ldI h3 b (0 + 1) .u8 fun t4 => 
      iteP (decide (t4 ≥ 1)) (
        ldI h3 b (0 + 1) .u8 fun t5 => 
        iteP (decide (t5 ≤ 8)) (
          ldI h3 b (0 + 2) .i64 fun t6 => 
          f_proto_from t6 0 1099511627776 (fun t7 h8 =>
            iteP t7 (
              ldI h8 b (0 + 3) .i64 fun t9 => 
              f_proto_from t9 0 1099511627776 (fun t10 h11 =>
                iteP t10 (
                  ldI h11 b (0 + 4) .i64 fun t12 => 
                  f_proto_from t12 0 2147483647 (fun t13 h14 =>
                    bindB t13 fun t15 => 
                    K t15 h14) h11) (
                  K false h11)) h8) (
              K false h8)) h3) (
          K false h3)) (
        K false h3)) (
      K false h3)) h1

def m_proto_RightAnswer (a : Int × Int × Int × Int × Int × Unit) (K : Bool → Heap → Prop) (h : Heap) : Prop := g_proto_RightAnswer m_proto_from a K h

/-- (*proto.reader).ended -/
def g_proto_reader_ended (r : Option Addr) (right : Bool) (K : Int → Int → Heap → Prop) (h : Heap) : Prop :=
  bindI 0 fun t => 
  bindI 0 fun t1 => 
  derefP r fun b o => 
  ldB h b (o + 2) fun t2 => 
  bindB t2 fun t3 => 
  iteP t3 (
    derefP r fun b4 o5 => 
    ldL h b4 o5 fun t6 => 
    bindI 6 fun t7 => 
    bindI (t6.len : Int) fun t8 => 
    K t7 t8 h) (
    derefP r fun b9 o10 => 
    ldI h b9 (o10 + 1) .i64 fun t11 => 
    derefP r fun b12 o13 => 
    ldL h b12 o13 fun t14 => 
    bindB (decide (t11 < (t14.len : Int))) fun t15 => 
    iteP t15 (
      derefP r fun b16 o17 => 
      ldI h b16 (o17 + 1) .i64 fun t18 => 
      bindI 6 fun t19 => 
      bindI t18 fun t20 => 
      K t19 t20 h) (
      bindB (!right) fun t21 => 
      iteP t21 (
        bindI 6 fun t22 => 
        bindI 0 fun t23 => 
        K t22 t23 h) (
        bindI 0 fun t24 => 
        bindI 0 fun t25 => 
        K t24 t25 h)))

def m_proto_reader_ended (r : Option Addr) (right : Bool) (K : Int → Int → Heap → Prop) (h : Heap) : Prop := g_proto_reader_ended r right K h

/-- proto.ReadAnswer -/
def g_proto_ReadAnswer (f_proto_reader_number : (Option Addr) → Int → (Int → Heap → Prop) → Heap → Prop) (f_proto_RightAnswer : (Int × Int × Int × Int × Int × Unit) → (Bool → Heap → Prop) → Heap → Prop) (f_proto_reader_ended : (Option Addr) → Bool → (Int → Int → Heap → Prop) → Heap → Prop) (b : Sl) (K : (Int × Int × Int × Int × Int × Unit) → Int → Int → Heap → Prop) (h : Heap) : Prop :=
  newC h [Value.int .i64 0, Value.int .u8 0, Value.int .i64 0, Value.int .i64 0, Value.int .i64 0] 67 fun b1 h2 => 
  bindI 0 fun t => 
  bindI 0 fun t3 => 
  newC h2 [Value.slice b.ptr b.len b.cap, Value.int .i64 0, Value.bool false] 115 fun b4 h5 => 
  f_proto_reader_number (some ⟨b4, 0, none⟩) 1 (fun t6 h7 =>
    f_proto_reader_number (some ⟨b4, 0, none⟩) 8 (fun t8 h9 =>
      f_proto_reader_number (some ⟨b4, 0, none⟩) 8 (fun t10 h11 =>
        f_proto_reader_number (some ⟨b4, 0, none⟩) 8 (fun t12 h13 =>
          f_proto_reader_number (some ⟨b4, 0, none⟩) 8 (fun t14 h15 =>
            newC h15 [Value.int .i64 0, Value.int .u8 0, Value.int .i64 0, Value.int .i64 0, Value.int .i64 0] 67 fun b16 h17 => 
            sts h17 b16 0 [Value.int .i64 t8, Value.int .u8 (IntKind.wrap .u8 t6), Value.int .i64 t10, Value.int .i64 t12, Value.int .i64 t14] fun h18 => 
            ldI h18 b16 0 .i64 fun t19 => ldI h18 b16 (0 + 1) .u8 fun t20 => ldI h18 b16 (0 + 2) .i64 fun t21 => ldI h18 b16 (0 + 3) .i64 fun t22 => ldI h18 b16 (0 + 4) .i64 fun t23 => 
            f_proto_RightAnswer (t19, t20, t21, t22, t23, ()) (fun t24 h25 =>
              f_proto_reader_ended (some ⟨b4, 0, none⟩) t24 (fun t26 t27 h28 =>
                bindI t26 fun err => 
                bindI t27 fun at_ => 
                iteP (err != 0) (
                  sts h28 b1 0 [Value.int .i64 0, Value.int .u8 0, Value.int .i64 0, Value.int .i64 0, Value.int .i64 0] fun h29 => 
                  bindI err fun t30 => 
                  bindI at_ fun t31 => 
                  ldI h29 b1 0 .i64 fun t32 => ldI h29 b1 (0 + 1) .u8 fun t33 => ldI h29 b1 (0 + 2) .i64 fun t34 => ldI h29 b1 (0 + 3) .i64 fun t35 => ldI h29 b1 (0 + 4) .i64 fun t36 => K (t32, t33, t34, t35, t36, ()) t30 t31 h29) (
                  ldI h28 b16 0 .i64 fun t37 => ldI h28 b16 (0 + 1) .u8 fun t38 => ldI h28 b16 (0 + 2) .i64 fun t39 => ldI h28 b16 (0 + 3) .i64 fun t40 => ldI h28 b16 (0 + 4) .i64 fun t41 => 
                  sts h28 b1 0 [Value.int .i64 t37, Value.int .u8 t38, Value.int .i64 t39, Value.int .i64 t40, Value.int .i64 t41] fun h42 => 
                  bindI 0 fun t43 => 
                  bindI 0 fun t44 => 
                  ldI h42 b1 0 .i64 fun t45 => ldI h42 b1 (0 + 1) .u8 fun t46 => ldI h42 b1 (0 + 2) .i64 fun t47 => ldI h42 b1 (0 + 3) .i64 fun t48 => ldI h42 b1 (0 + 4) .i64 fun t49 => K (t45, t46, t47, t48, t49, ()) t43 t44 h42)) h25) h18) h13) h11) h9) h7) h5

def m_proto_ReadAnswer (b : Sl) (K : (Int × Int × Int × Int × Int × Unit) → Int → Int → Heap → Prop) (h : Heap) : Prop := g_proto_ReadAnswer m_proto_reader_number m_proto_RightAnswer m_proto_reader_ended b K h

/-- (*client.Client).answered -/
def g_client_Client_answered (c : Option Addr) (a : Int × Int × Int × Int × Int × Unit) (K : Heap → Prop) (h : Heap) : Prop :=
  newC h [Value.int .i64 a.1, Value.int .u8 a.2.1, Value.int .i64 a.2.2.1, Value.int .i64 a.2.2.2.1, Value.int .i64 a.2.2.2.2.1] 67 fun b h1 => 
  derefP c fun b2 o => 
  ldM h1 b2 (o + 8) fun t => 
  ldI h1 b 0 .i64 fun t3 => 
  mapGet (.int .i64) h1 t (Value.int .i64 t3) fun r => asI (r.getD (Value.int .i64 0)) .i64 fun t4 => 
  bindI t4 fun _ => 
  bindB r.isSome fun waits => 
  iteP waits (
    derefP c fun b5 o6 => 
    ldM h1 b5 (o6 + 8) fun t7 => 
    ldI h1 b 0 .i64 fun t8 => 
    mapDel (.int .i64) h1 t7 (Value.int .i64 t8) fun h9 => 
    derefP c fun b10 o11 => 
    ldL h9 b10 (o11 + 10) fun t12 => 
    ldI h9 b 0 .i64 fun t13 => 
    ldI h9 b 0 .i64 fun t14 => ldI h9 b (0 + 1) .u8 fun t15 => ldI h9 b (0 + 2) .i64 fun t16 => ldI h9 b (0 + 3) .i64 fun t17 => ldI h9 b (0 + 4) .i64 fun t18 => 
    newC h9 [Value.int .i64 t13, Value.int .i64 t14, Value.int .u8 t15, Value.int .i64 t16, Value.int .i64 t17, Value.int .i64 t18, Value.bool false] 69 fun b19 h20 => 
    need (heldL h20 [(b, 0, Value.int .i64 t14), (b, 0 + 1, Value.int .u8 t15), (b, 0 + 2, Value.int .i64 t16), (b, 0 + 3, Value.int .i64 t17), (b, 0 + 4, Value.int .i64 t18)]) <|
    need (heldL h20 [(b, 0, Value.int .i64 t13)]) <|
    need (heldL h20 [(b10, o11 + 10, Value.slice t12.ptr t12.len t12.cap)]) <|
    rdS ⟨some ⟨b19, 0, none⟩, 1, 1⟩ 7 h20 fun new => app 69 7 56 [Value.int .i64 0, Value.int .i64 0, Value.int .u8 0, Value.int .i64 0, Value.int .i64 0, Value.int .i64 0, Value.bool false] t12 1 new h20 fun t21 h22 => 
    need (heldL h22 [(b, 0, Value.int .i64 t14), (b, 0 + 1, Value.int .u8 t15), (b, 0 + 2, Value.int .i64 t16), (b, 0 + 3, Value.int .i64 t17), (b, 0 + 4, Value.int .i64 t18)]) <|
    need (heldL h22 [(b, 0, Value.int .i64 t13)]) <|
    derefP c fun b23 o24 => 
    st h22 b23 (o24 + 10) (Value.slice t21.ptr t21.len t21.cap) fun h25 => 
    K h25) (
    K h1)

def m_client_Client_answered (c : Option Addr) (a : Int × Int × Int × Int × Int × Unit) (K : Heap → Prop) (h : Heap) : Prop := g_client_Client_answered c a K h

/-- (*client.Client).Bytes$1 -/
def g_client_Client_Bytes_1 (f_frame_Reader_Put : (Option Addr) → Sl → (Sl → Int → Heap → Prop) → Heap → Prop) (f_proto_ReadAnswer : Sl → ((Int × Int × Int × Int × Int × Unit) → Int → Int → Heap → Prop) → Heap → Prop) (f_client_Client_answered : (Option Addr) → (Int × Int × Int × Int × Int × Unit) → (Heap → Prop) → Heap → Prop) (f_client_Client_down : (Option Addr) → (Heap → Prop) → Heap → Prop) (a0 : Option Addr) (a1 : Option Addr) (K : Int → Heap → Prop) (h : Heap) : Prop :=
  bindI 0 fun t => 
  derefP a0 fun b o => ldP h b o fun t1 => 
  derefP t1 fun b2 o3 => 
  ldB h b2 (o3 + 5) fun t4 => 
  iteP (!t4) (
    bindI 51 fun t5 => 
    K t5 h) (
    derefP a0 fun b6 o7 => ldP h b6 o7 fun t8 => 
    derefP t8 fun b9 o10 => 
    ldP h b9 o10 fun t11 => 
    derefP a1 fun b12 o13 => ldL h b12 o13 fun t14 => 
    f_frame_Reader_Put t11 t14 (fun t15 t16 h17 =>
      need (heldL h17 [(b6, o7, Value.pointer t8)]) <|
      bindI t16 fun err => 
      cutP (σ := Int × Unit) (fun s43 h44 =>
        (fun (err42 : Int) =>
          iteP (err42 != 0) (
            derefP a0 fun b45 o46 => ldP h44 b45 o46 fun t47 => 
            f_client_Client_down t47 (fun h48 =>
              bindI err42 fun t49 => 
              K t49 h48) h44) (
            bindI err42 fun t50 => 
            K t50 h44)) s43.1) (fun J18 =>
        loopM (σ := Int × Int × Unit) (fun J20 s h21 =>
          (fun (err19 : Int) (s26 : Int) =>
            iteP (decide (s26 < (t15.len : Int))) (
              idxA t15.ptr t15.len s26 1 fun b22 o23 => 
              ldL h21 b22 o23 fun t24 => 
              f_proto_ReadAnswer t24 (fun t25 t26 t27 h28 =>
                newC h28 [Value.int .i64 0, Value.int .u8 0, Value.int .i64 0, Value.int .i64 0, Value.int .i64 0] 67 fun b29 h30 => 
                sts h30 b29 0 [Value.int .i64 t25.1, Value.int .u8 t25.2.1, Value.int .i64 t25.2.2.1, Value.int .i64 t25.2.2.2.1, Value.int .i64 t25.2.2.2.2.1] fun h31 => 
                bindI t26 fun wrong => 
                bindI t27 fun _ => 
                iteP (wrong != 0) (
                  bindI 50 fun err32 => 
                  J18 (err32, ()) h31) (
                  derefP a0 fun b33 o34 => ldP h31 b33 o34 fun t35 => 
                  ldI h31 b29 0 .i64 fun t36 => ldI h31 b29 (0 + 1) .u8 fun t37 => ldI h31 b29 (0 + 2) .i64 fun t38 => ldI h31 b29 (0 + 3) .i64 fun t39 => ldI h31 b29 (0 + 4) .i64 fun t40 => 
                  f_client_Client_answered t35 (t36, t37, t38, t39, t40, ()) (fun h41 =>
                    J20 (err19, IntKind.wrap .i64 (s26 + 1), ()) h41) h31)) h21) (
              J18 (err19, ()) h21)) s.1 s.2.1) (err, 0, ()) h17)) h)

def m_client_Client_Bytes_1 (a0 : Option Addr) (a1 : Option Addr) (K : Int → Heap → Prop) (h : Heap) : Prop := g_client_Client_Bytes_1 m_frame_Reader_Put m_proto_ReadAnswer m_client_Client_answered m_client_Client_down a0 a1 K h

/-- (*client.Client).at -/
def g_client_Client_at__client_Client_Bytes_1 (f_client_Client_Waiting : (Option Addr) → (Sl → Heap → Prop) → Heap → Prop) (f_client_Client_fall : (Option Addr) → Int → (Heap → Prop) → Heap → Prop) (f_client_Client_Bytes_1 : (Option Addr) → (Option Addr) → (Int → Heap → Prop) → Heap → Prop) (c : Option Addr) (at_ : Int) (then_ : Option Addr × Option Addr × Unit) (K : Int → Heap → Prop) (h : Heap) : Prop :=
  bindI 0 fun t => 
  bindB c.isNone fun t1 => 
  iteP t1 (
    bindI 1 fun t2 => 
    K t2 h) (
    iteP (decide (at_ < 0)) (
      bindI 2 fun t3 => 
      K t3 h) (
      bindB (decide (at_ > 1152921504606846976)) fun t4 => 
      iteP t4 (
        bindI 2 fun t5 => 
        K t5 h) (
        derefP c fun b o => 
        ldI h b (o + 6) .i64 fun t6 => 
        bindB (decide (at_ < t6)) fun t7 => 
        iteP t7 (
          bindI 7 fun t8 => 
          K t8 h) (
          derefP c fun b9 o10 => 
          st h b9 (o10 + 6) (Value.int .i64 at_) fun h11 => 
          f_client_Client_Waiting c (fun t12 h13 =>
            loopM (σ := Int × Unit) (fun J14 s h15 =>
              (fun (s33 : Int) =>
                iteP (decide (s33 < (t12.len : Int))) (
                  idxA t12.ptr t12.len s33 1 fun b16 o17 => 
                  ldI h15 b16 o17 .i64 fun t18 => 
                  bindI t18 fun id => 
                  derefP c fun b19 o20 => 
                  derefP c fun b21 o22 => 
                  ldM h15 b19 (o20 + 8) fun t23 => 
                  ldI h15 b21 (o22 + 1) .i64 fun t24 => 
                  mapGet (.int .i64) h15 t23 (Value.int .i64 id) fun r => asI (r.getD (Value.int .i64 0)) .i64 fun t25 => 
                  need (heldL h15 [(b21, o22 + 1, Value.int .i64 t24)]) <|
                  iteP (decide ((IntKind.wrap .i64 (at_ - t25)) ≥ t24)) (
                    f_client_Client_fall c id (fun h26 =>
                      J14 (IntKind.wrap .i64 (s33 + 1), ()) h26) h15) (
                    J14 (IntKind.wrap .i64 (s33 + 1), ()) h15)) (
                  f_client_Client_Bytes_1 then_.1 then_.2.1 (fun t27 h28 =>
                    bindI t27 fun t29 => 
                    K t29 h28) h15)) s.1) (0, ()) h13) h11))))

def m_client_Client_at__client_Client_Bytes_1 (c : Option Addr) (at_ : Int) (then_ : Option Addr × Option Addr × Unit) (K : Int → Heap → Prop) (h : Heap) : Prop := g_client_Client_at__client_Client_Bytes_1 m_client_Client_Waiting m_client_Client_fall m_client_Client_Bytes_1 c at_ then_ K h

/-- (*client.Client).Bytes -/
def g_client_Client_Bytes (f_client_Client_at__client_Client_Bytes_1 : (Option Addr) → Int → (Option Addr × Option Addr × Unit) → (Int → Heap → Prop) → Heap → Prop) (c : Option Addr) (at_ : Int) (b : Sl) (K : Int → Heap → Prop) (h : Heap) : Prop :=
  newC h [Value.pointer c] 25 fun b1 h2 => 
  newC h2 [Value.slice b.ptr b.len b.cap] 40 fun b3 h4 => 
  bindI 0 fun t => 
  ldP h4 b1 0 fun t5 => 
  f_client_Client_at__client_Client_Bytes_1 t5 at_ (some ⟨b1, 0, none⟩, some ⟨b3, 0, none⟩, ()) (fun t6 h7 =>
    bindI t6 fun t8 => 
    K t8 h7) h4

def m_client_Client_Bytes (c : Option Addr) (at_ : Int) (b : Sl) (K : Int → Heap → Prop) (h : Heap) : Prop := g_client_Client_Bytes m_client_Client_at__client_Client_Bytes_1 c at_ b K h

/-- spillwayref18.could -/
def g_spillwayref18_could (b : Sl) (K : Bool → Heap → Prop) (h : Heap) : Prop :=
  bindI 0 fun n => 
  bindI 0 fun i => 
  loopM (σ := Int × Int × Unit) (fun J3 s h4 =>
    (fun (n1 : Int) (i2 : Int) =>
      iteP (decide (i2 < 4)) (
        bindI (IntKind.wrap .i64 (n1 * 256)) fun n5 => 
        iteP (decide (i2 < (b.len : Int))) (
          idxA b.ptr b.len i2 1 fun b6 o => 
          ldI h4 b6 o .u8 fun t => 
          bindI (IntKind.wrap .i64 (n5 + (IntKind.wrap .i64 t))) fun n7 => 
          bindI (IntKind.wrap .i64 (i2 + 1)) fun i8 => 
          J3 (n7, i8, ()) h4) (
          bindI (IntKind.wrap .i64 (i2 + 1)) fun i9 => 
          J3 (n5, i9, ()) h4)) (
        iteP (decide ((b.len : Int) < 4)) (
          bindB (decide (n1 ≤ 4096)) fun t10 => 
          K t10 h4) (
          iteP (decide (n1 ≥ 1)) (
            bindB (decide (n1 ≤ 4096)) fun t11 => 
            K t11 h4) (
            K false h4)))) s.1 s.2.1) (n, i, ()) h

def m_spillwayref18_could (b : Sl) (K : Bool → Heap → Prop) (h : Heap) : Prop := g_spillwayref18_could b K h

/-- spillwayref18.Split -/
def g_spillwayref18_Split (f_spillwayref18_could : Sl → (Bool → Heap → Prop) → Heap → Prop) (b : Sl) (K : Sl → Int → Int → Heap → Prop) (h : Heap) : Prop :=
  bindI 0 fun t => 
  bindI 0 fun t1 => 
  bindI 0 fun at_ => 
  loopM (σ := Sl × Int × Unit) (fun J3 s h4 =>
    (fun (out : Sl) (at_2 : Int) =>
      iteP (decide (at_2 < (b.len : Int))) (
        slc b.ptr b.cap 1 at_2 b.len b.cap fun t5 => 
        cutP (σ := Sl × Unit) (fun s8 h9 =>
          (fun (head : Sl) =>
            f_spillwayref18_could head (fun t10 h11 =>
              iteP (!t10) (
                bindI at_2 fun t12 => 
                bindI 50 fun t13 => 
                K out t12 t13 h11) (
                iteP (decide ((head.len : Int) < 4)) (
                  bindI at_2 fun t14 => 
                  bindI 24 fun t15 => 
                  K out t14 t15 h11) (
                  idxA head.ptr head.len 2 1 fun b16 o => 
                  ldI h11 b16 o .u8 fun t17 => 
                  need (0 ≤ (8 : Int)) <| 
                  idxA head.ptr head.len 3 1 fun b18 o19 => 
                  ldI h11 b18 o19 .u8 fun t20 => 
                  bindI (orV .i64 (shlV .i64 (IntKind.wrap .i64 t17) 8) (IntKind.wrap .i64 t20)) fun n => 
                  iteP (decide ((IntKind.wrap .i64 ((b.len : Int) - at_2)) < (IntKind.wrap .i64 ((4 : Int) + n)))) (
                    bindI at_2 fun t21 => 
                    bindI 24 fun t22 => 
                    K out t21 t22 h11) (
                    slc b.ptr b.cap 1 (IntKind.wrap .i64 (at_2 + 4)) (IntKind.wrap .i64 ((IntKind.wrap .i64 (at_2 + 4)) + n)) b.cap fun t23 => 
                    newC h11 [Value.slice t23.ptr t23.len t23.cap] 40 fun b24 h25 => 
                    rdS ⟨some ⟨b24, 0, none⟩, 1, 1⟩ 1 h25 fun new => app 40 1 24 [Value.slice none 0 0] out 1 new h25 fun t26 h27 => 
                    bindI (IntKind.wrap .i64 (at_2 + (IntKind.wrap .i64 ((4 : Int) + n)))) fun at_28 => 
                    J3 (t26, at_28, ()) h27)))) h9) s8.1) (fun J6 =>
          iteP (decide ((t5.len : Int) > 4)) (
            slc t5.ptr t5.cap 1 0 4 t5.cap fun t7 => 
            J6 (t7, ()) h4) (
            J6 (t5, ()) h4))) (
        bindI at_2 fun t29 => 
        bindI 0 fun t30 => 
        K out t29 t30 h4)) s.1 s.2.1) (⟨none, 0, 0⟩, at_, ()) h

def m_spillwayref18_Split (b : Sl) (K : Sl → Int → Int → Heap → Prop) (h : Heap) : Prop := g_spillwayref18_Split m_spillwayref18_could b K h

/-- (*spillwayref18.Reader).Put -/
def g_spillwayref18_Reader_Put (f_spillwayref18_Split : Sl → (Sl → Int → Int → Heap → Prop) → Heap → Prop) (r : Option Addr) (b : Sl) (K : Sl → Int → Heap → Prop) (h : Heap) : Prop :=
  bindI 0 fun t => 
  iteP r.isNone (
    bindI 1 fun t1 => 
    K ⟨none, 0, 0⟩ t1 h) (
    derefP r fun b2 o => 
    ldB h b2 (o + 1) fun t3 => 
    iteP t3 (
      bindI 50 fun t4 => 
      K ⟨none, 0, 0⟩ t4 h) (
      newC h [] 5 fun b5 h6 => 
      derefP r fun b7 o8 => 
      ldL h6 b7 o8 fun t9 => 
      rdS t9 1 h6 fun new => app 5 1 1 [Value.int .u8 0] ⟨some ⟨b5, 0, none⟩, 0, 0⟩ t9.len new h6 fun t10 h11 => 
      rdS b 1 h11 fun new14 => app 5 1 1 [Value.int .u8 0] t10 b.len new14 h11 fun t12 h13 => 
      f_spillwayref18_Split t12 (fun t15 t16 t17 h18 =>
        bindI t16 fun at_ => 
        bindI t17 fun e => 
        slc t12.ptr t12.cap 1 at_ t12.len t12.cap fun t19 => 
        derefP r fun b20 o21 => 
        st h18 b20 o21 (Value.slice t19.ptr t19.len t19.cap) fun h22 => 
        iteP (e == 50) (
          derefP r fun b23 o24 => 
          ldL h22 b23 o24 fun t25 => 
          iteP (decide ((t25.len : Int) ≥ 4)) (
            derefP r fun b26 o27 => 
            st h22 b26 o27 (Value.slice none 0 0) fun h28 => 
            derefP r fun b29 o30 => 
            st h28 b29 (o30 + 1) (Value.bool true) fun h31 => 
            bindI 50 fun t32 => 
            K t15 t32 h31) (
            bindI 0 fun t33 => 
            K t15 t33 h22)) (
          bindI 0 fun t34 => 
          K t15 t34 h22)) h13))

def m_spillwayref18_Reader_Put (r : Option Addr) (b : Sl) (K : Sl → Int → Heap → Prop) (h : Heap) : Prop := g_spillwayref18_Reader_Put m_spillwayref18_Split r b K h

/-- spillwayref19.number -/
def g_spillwayref19_number (b : Sl) (K : Int → Heap → Prop) (h : Heap) : Prop :=
  bindI 0 fun t => 
  bindI 0 fun n => 
  bindI 0 fun i => 
  loopM (σ := Int × Int × Unit) (fun J3 s h4 =>
    (fun (n1 : Int) (i2 : Int) =>
      iteP (decide (i2 < 8)) (
        need (0 ≤ (8 : Int)) <| 
        idxA b.ptr b.len i2 1 fun b5 o => 
        ldI h4 b5 o .u8 fun t6 => 
        bindI (orV .i64 (shlV .i64 n1 8) (IntKind.wrap .i64 t6)) fun n7 => 
        bindI (IntKind.wrap .i64 (i2 + 1)) fun i8 => 
        J3 (n7, i8, ()) h4) (
        bindI n1 fun t9 => 
        K t9 h4)) s.1 s.2.1) (n, i, ()) h

def m_spillwayref19_number (b : Sl) (K : Int → Heap → Prop) (h : Heap) : Prop := g_spillwayref19_number b K h

/-- spillwayref19.RightAnswer -/
def g_spillwayref19_RightAnswer (f_spillwayref19_in : Int → Int → Int → (Bool → Heap → Prop) → Heap → Prop) (a : Int × Int × Int × Int × Int × Unit) (K : Bool → Heap → Prop) (h : Heap) : Prop :=
  newC h [Value.int .i64 a.1, Value.int .u8 a.2.1, Value.int .i64 a.2.2.1, Value.int .i64 a.2.2.2.1, Value.int .i64 a.2.2.2.2.1] 67 fun b h1 => 
  ldI h1 b 0 .i64 fun t => 
  f_spillwayref19_in t 0 2147483647 (fun t2 h3 =>
    iteP t2 (
      ldI h3 b (0 + 1) .u8 fun t4 => 
      iteP (decide (t4 ≥ 1)) (
        ldI h3 b (0 + 1) .u8 fun t5 => 
        iteP (decide (t5 ≤ 8)) (
          ldI h3 b (0 + 2) .i64 fun t6 => 
          f_spillwayref19_in t6 0 1099511627776 (fun t7 h8 =>
            iteP t7 (
              ldI h8 b (0 + 3) .i64 fun t9 => 
              f_spillwayref19_in t9 0 1099511627776 (fun t10 h11 =>
                iteP t10 (
                  ldI h11 b (0 + 4) .i64 fun t12 => 
                  f_spillwayref19_in t12 0 2147483647 (fun t13 h14 =>
                    bindB t13 fun t15 => 
                    K t15 h14) h11) (
                  K false h11)) h8) (
              K false h8)) h3) (
          K false h3)) (
        K false h3)) (
      K false h3)) h1

def m_spillwayref19_RightAnswer (a : Int × Int × Int × Int × Int × Unit) (K : Bool → Heap → Prop) (h : Heap) : Prop := g_spillwayref19_RightAnswer m_spillwayref19_in a K h

/-- spillwayref19.ReadAnswer -/
def g_spillwayref19_ReadAnswer (f_spillwayref19_number : Sl → (Int → Heap → Prop) → Heap → Prop) (f_spillwayref19_RightAnswer : (Int × Int × Int × Int × Int × Unit) → (Bool → Heap → Prop) → Heap → Prop) (b : Sl) (K : (Int × Int × Int × Int × Int × Unit) → Int → Int → Heap → Prop) (h : Heap) : Prop :=
  newC h [Value.int .i64 0, Value.int .u8 0, Value.int .i64 0, Value.int .i64 0, Value.int .i64 0] 67 fun b1 h2 => 
  bindI 0 fun t => 
  bindI 0 fun t3 => 
  iteP (decide ((b.len : Int) < 33)) (
    sts h2 b1 0 [Value.int .i64 0, Value.int .u8 0, Value.int .i64 0, Value.int .i64 0, Value.int .i64 0] fun h4 => 
    bindI 6 fun t5 => 
    bindI (b.len : Int) fun t6 => 
    ldI h4 b1 0 .i64 fun t7 => ldI h4 b1 (0 + 1) .u8 fun t8 => ldI h4 b1 (0 + 2) .i64 fun t9 => ldI h4 b1 (0 + 3) .i64 fun t10 => ldI h4 b1 (0 + 4) .i64 fun t11 => K (t7, t8, t9, t10, t11, ()) t5 t6 h4) (
    iteP (decide ((b.len : Int) > 33)) (
      sts h2 b1 0 [Value.int .i64 0, Value.int .u8 0, Value.int .i64 0, Value.int .i64 0, Value.int .i64 0] fun h12 => 
      bindI 6 fun t13 => 
      bindI 33 fun t14 => 
      ldI h12 b1 0 .i64 fun t15 => ldI h12 b1 (0 + 1) .u8 fun t16 => ldI h12 b1 (0 + 2) .i64 fun t17 => ldI h12 b1 (0 + 3) .i64 fun t18 => ldI h12 b1 (0 + 4) .i64 fun t19 => K (t15, t16, t17, t18, t19, ()) t13 t14 h12) (
      cutP (σ := Option Addr × Unit) (fun s h70 =>
        (fun (a : Option Addr) =>
          derefP a fun b71 o72 => ldI h70 b71 o72 .i64 fun t73 => ldI h70 b71 (o72 + 1) .u8 fun t74 => ldI h70 b71 (o72 + 2) .i64 fun t75 => ldI h70 b71 (o72 + 3) .i64 fun t76 => ldI h70 b71 (o72 + 4) .i64 fun t77 => 
          f_spillwayref19_RightAnswer (t73, t74, t75, t76, t77, ()) (fun t78 h79 =>
            iteP (!t78) (
              sts h79 b1 0 [Value.int .i64 0, Value.int .u8 0, Value.int .i64 0, Value.int .i64 0, Value.int .i64 0] fun h80 => 
              bindI 6 fun t81 => 
              bindI 0 fun t82 => 
              ldI h80 b1 0 .i64 fun t83 => ldI h80 b1 (0 + 1) .u8 fun t84 => ldI h80 b1 (0 + 2) .i64 fun t85 => ldI h80 b1 (0 + 3) .i64 fun t86 => ldI h80 b1 (0 + 4) .i64 fun t87 => K (t83, t84, t85, t86, t87, ()) t81 t82 h80) (
              derefP a fun b88 o89 => ldI h79 b88 o89 .i64 fun t90 => ldI h79 b88 (o89 + 1) .u8 fun t91 => ldI h79 b88 (o89 + 2) .i64 fun t92 => ldI h79 b88 (o89 + 3) .i64 fun t93 => ldI h79 b88 (o89 + 4) .i64 fun t94 => 
              sts h79 b1 0 [Value.int .i64 t90, Value.int .u8 t91, Value.int .i64 t92, Value.int .i64 t93, Value.int .i64 t94] fun h95 => 
              bindI 0 fun t96 => 
              bindI 0 fun t97 => 
              ldI h95 b1 0 .i64 fun t98 => ldI h95 b1 (0 + 1) .u8 fun t99 => ldI h95 b1 (0 + 2) .i64 fun t100 => ldI h95 b1 (0 + 3) .i64 fun t101 => ldI h95 b1 (0 + 4) .i64 fun t102 => K (t98, t99, t100, t101, t102, ()) t96 t97 h95)) h70) s.1) (fun J20 =>
        idxA b.ptr b.len 0 1 fun b21 o => 
        slc b.ptr b.cap 1 1 b.len b.cap fun t22 => 
        slc b.ptr b.cap 1 9 b.len b.cap fun t23 => 
        slc b.ptr b.cap 1 17 b.len b.cap fun t24 => 
        slc b.ptr b.cap 1 25 b.len b.cap fun t25 => 
        ldI h2 b21 o .u8 fun t26 => 
        bothP (
          f_spillwayref19_number t22 (fun t27 h28 =>
            need (heldL h28 [(b21, o, Value.int .u8 t26)]) <|
            bothP (
              f_spillwayref19_number t23 (fun t29 h30 =>
                need (heldL h30 [(b21, o, Value.int .u8 t26)]) <|
                bothP (
                  f_spillwayref19_number t24 (fun t31 h32 =>
                    need (heldL h32 [(b21, o, Value.int .u8 t26)]) <|
                    bothP (
                      f_spillwayref19_number t25 (fun t33 h34 =>
                        need (heldL h34 [(b21, o, Value.int .u8 t26)]) <|
                        newC h34 [Value.int .i64 0, Value.int .u8 0, Value.int .i64 0, Value.int .i64 0, Value.int .i64 0] 67 fun b35 h36 => 
                        need (heldL h36 [(b21, o, Value.int .u8 t26)]) <|
                        sts h36 b35 0 [Value.int .i64 t27, Value.int .u8 t26, Value.int .i64 t29, Value.int .i64 t31, Value.int .i64 t33] fun h37 => 
                        J20 (some ⟨b35, 0, none⟩, ()) h37) h32) (
                      newC h32 [Value.int .i64 0, Value.int .u8 0, Value.int .i64 0, Value.int .i64 0, Value.int .i64 0] 67 fun b38 h39 => 
                      need (heldL h39 [(b21, o, Value.int .u8 t26)]) <|
                      f_spillwayref19_number t25 (fun t40 h41 =>
                        need (heldL h41 [(b21, o, Value.int .u8 t26)]) <|
                        sts h41 b38 0 [Value.int .i64 t27, Value.int .u8 t26, Value.int .i64 t29, Value.int .i64 t31, Value.int .i64 t40] fun h42 => 
                        J20 (some ⟨b38, 0, none⟩, ()) h42) h39)) h30) (
                  newC h30 [Value.int .i64 0, Value.int .u8 0, Value.int .i64 0, Value.int .i64 0, Value.int .i64 0] 67 fun b43 h44 => 
                  need (heldL h44 [(b21, o, Value.int .u8 t26)]) <|
                  f_spillwayref19_number t24 (fun t45 h46 =>
                    need (heldL h46 [(b21, o, Value.int .u8 t26)]) <|
                    f_spillwayref19_number t25 (fun t47 h48 =>
                      need (heldL h48 [(b21, o, Value.int .u8 t26)]) <|
                      sts h48 b43 0 [Value.int .i64 t27, Value.int .u8 t26, Value.int .i64 t29, Value.int .i64 t45, Value.int .i64 t47] fun h49 => 
                      J20 (some ⟨b43, 0, none⟩, ()) h49) h46) h44)) h28) (
              newC h28 [Value.int .i64 0, Value.int .u8 0, Value.int .i64 0, Value.int .i64 0, Value.int .i64 0] 67 fun b50 h51 => 
              need (heldL h51 [(b21, o, Value.int .u8 t26)]) <|
              f_spillwayref19_number t23 (fun t52 h53 =>
                need (heldL h53 [(b21, o, Value.int .u8 t26)]) <|
                f_spillwayref19_number t24 (fun t54 h55 =>
                  need (heldL h55 [(b21, o, Value.int .u8 t26)]) <|
                  f_spillwayref19_number t25 (fun t56 h57 =>
                    need (heldL h57 [(b21, o, Value.int .u8 t26)]) <|
                    sts h57 b50 0 [Value.int .i64 t27, Value.int .u8 t26, Value.int .i64 t52, Value.int .i64 t54, Value.int .i64 t56] fun h58 => 
                    J20 (some ⟨b50, 0, none⟩, ()) h58) h55) h53) h51)) h2) (
          newC h2 [Value.int .i64 0, Value.int .u8 0, Value.int .i64 0, Value.int .i64 0, Value.int .i64 0] 67 fun b59 h60 => 
          need (heldL h60 [(b21, o, Value.int .u8 t26)]) <|
          f_spillwayref19_number t22 (fun t61 h62 =>
            need (heldL h62 [(b21, o, Value.int .u8 t26)]) <|
            f_spillwayref19_number t23 (fun t63 h64 =>
              need (heldL h64 [(b21, o, Value.int .u8 t26)]) <|
              f_spillwayref19_number t24 (fun t65 h66 =>
                need (heldL h66 [(b21, o, Value.int .u8 t26)]) <|
                f_spillwayref19_number t25 (fun t67 h68 =>
                  need (heldL h68 [(b21, o, Value.int .u8 t26)]) <|
                  sts h68 b59 0 [Value.int .i64 t61, Value.int .u8 t26, Value.int .i64 t63, Value.int .i64 t65, Value.int .i64 t67] fun h69 => 
                  J20 (some ⟨b59, 0, none⟩, ()) h69) h66) h64) h62) h60))))

def m_spillwayref19_ReadAnswer (b : Sl) (K : (Int × Int × Int × Int × Int × Unit) → Int → Int → Heap → Prop) (h : Heap) : Prop := g_spillwayref19_ReadAnswer m_spillwayref19_number m_spillwayref19_RightAnswer b K h

/-- (*spillwayref21.Client).answered -/
def g_spillwayref21_Client_answered (c : Option Addr) (a : Int × Int × Int × Int × Int × Unit) (K : Heap → Prop) (h : Heap) : Prop :=
  newC h [Value.int .i64 a.1, Value.int .u8 a.2.1, Value.int .i64 a.2.2.1, Value.int .i64 a.2.2.2.1, Value.int .i64 a.2.2.2.2.1] 67 fun b h1 => 
  bindI 0 fun i => 
  loopM (σ := Int × Unit) (fun J3 s h4 =>
    (fun (i2 : Int) =>
      derefP c fun b5 o => 
      ldL h4 b5 (o + 5) fun t => 
      iteP (decide (i2 < (t.len : Int))) (
        derefP c fun b6 o7 => 
        ldL h4 b6 (o7 + 5) fun t8 => 
        idxA t8.ptr t8.len i2 2 fun b9 o10 => 
        ldI h4 b9 o10 .i64 fun t11 => 
        ldI h4 b 0 .i64 fun t12 => 
        iteP (t11 == t12) (
          derefP c fun b13 o14 => 
          ldL h4 b13 (o14 + 8) fun t15 => 
          ldI h4 b 0 .i64 fun t16 => 
          ldI h4 b 0 .i64 fun t17 => ldI h4 b (0 + 1) .u8 fun t18 => ldI h4 b (0 + 2) .i64 fun t19 => ldI h4 b (0 + 3) .i64 fun t20 => ldI h4 b (0 + 4) .i64 fun t21 => 
          newC h4 [Value.int .i64 t16, Value.int .i64 t17, Value.int .u8 t18, Value.int .i64 t19, Value.int .i64 t20, Value.int .i64 t21, Value.bool false] 104 fun b22 h23 => 
          need (heldL h23 [(b, 0, Value.int .i64 t17), (b, 0 + 1, Value.int .u8 t18), (b, 0 + 2, Value.int .i64 t19), (b, 0 + 3, Value.int .i64 t20), (b, 0 + 4, Value.int .i64 t21)]) <|
          need (heldL h23 [(b, 0, Value.int .i64 t16)]) <|
          need (heldL h23 [(b13, o14 + 8, Value.slice t15.ptr t15.len t15.cap)]) <|
          rdS ⟨some ⟨b22, 0, none⟩, 1, 1⟩ 7 h23 fun new => app 104 7 56 [Value.int .i64 0, Value.int .i64 0, Value.int .u8 0, Value.int .i64 0, Value.int .i64 0, Value.int .i64 0, Value.bool false] t15 1 new h23 fun t24 h25 => 
          need (heldL h25 [(b, 0, Value.int .i64 t17), (b, 0 + 1, Value.int .u8 t18), (b, 0 + 2, Value.int .i64 t19), (b, 0 + 3, Value.int .i64 t20), (b, 0 + 4, Value.int .i64 t21)]) <|
          need (heldL h25 [(b, 0, Value.int .i64 t16)]) <|
          derefP c fun b26 o27 => 
          st h25 b26 (o27 + 8) (Value.slice t24.ptr t24.len t24.cap) fun h28 => 
          derefP c fun b29 o30 => 
          ldL h28 b29 (o30 + 5) fun t31 => 
          slc t31.ptr t31.cap 2 0 i2 t31.cap fun t32 => 
          rdS t32 2 h28 fun new35 => app 86 2 16 [Value.int .i64 0, Value.int .i64 0] ⟨none, 0, 0⟩ t32.len new35 h28 fun t33 h34 => 
          derefP c fun b36 o37 => 
          ldL h34 b36 (o37 + 5) fun t38 => 
          slc t38.ptr t38.cap 2 (IntKind.wrap .i64 (i2 + 1)) t38.len t38.cap fun t39 => 
          rdS t39 2 h34 fun new42 => app 86 2 16 [Value.int .i64 0, Value.int .i64 0] t33 t39.len new42 h34 fun t40 h41 => 
          derefP c fun b43 o44 => 
          st h41 b43 (o44 + 5) (Value.slice t40.ptr t40.len t40.cap) fun h45 => 
          K h45) (
          bindI (IntKind.wrap .i64 (i2 + 1)) fun i46 => 
          J3 (i46, ()) h4)) (
        K h4)) s.1) (i, ()) h1

def m_spillwayref21_Client_answered (c : Option Addr) (a : Int × Int × Int × Int × Int × Unit) (K : Heap → Prop) (h : Heap) : Prop := g_spillwayref21_Client_answered c a K h

/-- (*spillwayref21.Client).Bytes -/
def g_spillwayref21_Client_Bytes (f_spillwayref21_Client_Tick : (Option Addr) → Int → (Int → Heap → Prop) → Heap → Prop) (f_spillwayref18_Reader_Put : (Option Addr) → Sl → (Sl → Int → Heap → Prop) → Heap → Prop) (f_spillwayref19_ReadAnswer : Sl → ((Int × Int × Int × Int × Int × Unit) → Int → Int → Heap → Prop) → Heap → Prop) (f_spillwayref21_Client_down : (Option Addr) → Int → (Heap → Prop) → Heap → Prop) (f_spillwayref21_Client_answered : (Option Addr) → (Int × Int × Int × Int × Int × Unit) → (Heap → Prop) → Heap → Prop) (c : Option Addr) (at_ : Int) (b : Sl) (K : Int → Heap → Prop) (h : Heap) : Prop :=
  bindI 0 fun t => 
  f_spillwayref21_Client_Tick c at_ (fun t1 h2 =>
    bindI t1 fun e => 
    iteP (e != 0) (
      bindI e fun t3 => 
      K t3 h2) (
      derefP c fun b4 o => 
      ldB h2 b4 (o + 4) fun t5 => 
      iteP (!t5) (
        bindI 51 fun t6 => 
        K t6 h2) (
        derefP c fun b7 o8 => 
        ldP h2 b7 (o8 + 11) fun t9 => 
        f_spillwayref18_Reader_Put t9 b (fun t10 t11 h12 =>
          bindI t11 fun e13 => 
          bindI 0 fun i => 
          loopM (σ := Int × Unit) (fun J15 s h16 =>
            (fun (i14 : Int) =>
              iteP (decide (i14 < (t10.len : Int))) (
                idxA t10.ptr t10.len i14 1 fun b17 o18 => 
                ldL h16 b17 o18 fun t19 => 
                f_spillwayref19_ReadAnswer t19 (fun t20 t21 t22 h23 =>
                  newC h23 [Value.int .i64 0, Value.int .u8 0, Value.int .i64 0, Value.int .i64 0, Value.int .i64 0] 67 fun b24 h25 => 
                  sts h25 b24 0 [Value.int .i64 t20.1, Value.int .u8 t20.2.1, Value.int .i64 t20.2.2.1, Value.int .i64 t20.2.2.2.1, Value.int .i64 t20.2.2.2.2.1] fun h26 => 
                  bindI t21 fun f => 
                  bindI t22 fun _ => 
                  iteP (f != 0) (
                    f_spillwayref21_Client_down c at_ (fun h27 =>
                      bindI 50 fun t28 => 
                      K t28 h27) h26) (
                    ldI h26 b24 0 .i64 fun t29 => ldI h26 b24 (0 + 1) .u8 fun t30 => ldI h26 b24 (0 + 2) .i64 fun t31 => ldI h26 b24 (0 + 3) .i64 fun t32 => ldI h26 b24 (0 + 4) .i64 fun t33 => 
                    f_spillwayref21_Client_answered c (t29, t30, t31, t32, t33, ()) (fun h34 =>
                      bindI (IntKind.wrap .i64 (i14 + 1)) fun i35 => 
                      J15 (i35, ()) h34) h26)) h16) (
                iteP (e13 != 0) (
                  f_spillwayref21_Client_down c at_ (fun h36 =>
                    bindI 50 fun t37 => 
                    K t37 h36) h16) (
                  bindI 0 fun t38 => 
                  K t38 h16))) s.1) (i, ()) h12) h2))) h

def m_spillwayref21_Client_Bytes (c : Option Addr) (at_ : Int) (b : Sl) (K : Int → Heap → Prop) (h : Heap) : Prop := g_spillwayref21_Client_Bytes m_spillwayref21_Client_Tick m_spillwayref18_Reader_Put m_spillwayref19_ReadAnswer m_spillwayref21_Client_down m_spillwayref21_Client_answered c at_ b K h

/-- spillwaymem.Same -/
def g_spillwaymem_Same (a : Sl) (b : Sl) (K : Bool → Heap → Prop) (h : Heap) : Prop :=
  iteP ((a.len : Int) != (b.len : Int)) (
    K false h) (
    bindI 0 fun i => 
    loopM (σ := Int × Unit) (fun J2 s h3 =>
      (fun (i1 : Int) =>
        iteP (decide (i1 < (a.len : Int))) (
          idxA a.ptr a.len i1 1 fun b4 o => 
          ldI h3 b4 o .u8 fun t => 
          idxA b.ptr b.len i1 1 fun b5 o6 => 
          ldI h3 b5 o6 .u8 fun t7 => 
          iteP (t != t7) (
            K false h3) (
            bindI (IntKind.wrap .i64 (i1 + 1)) fun i8 => 
            J2 (i8, ()) h3)) (
          K true h3)) s.1) (i, ()) h)

def m_spillwaymem_Same (a : Sl) (b : Sl) (K : Bool → Heap → Prop) (h : Heap) : Prop := g_spillwaymem_Same a b K h

/-- spillwaymem.Kept -/
def g_spillwaymem_Kept (f_spillwaymem_Same : Sl → Sl → (Bool → Heap → Prop) → Heap → Prop) (in_ : Sl) (l : Sl) (K : Bool → Heap → Prop) (h : Heap) : Prop :=
  f_spillwaymem_Same in_ l (fun t h1 =>
    iteP (!t) (
      K false h1) (
      slc in_.ptr in_.cap 1 0 (IntKind.wrap .i64 ((l.len : Int) + 9)) in_.cap fun t2 => 
      bindI (l.len : Int) fun i => 
      loopM (σ := Int × Unit) (fun J4 s h5 =>
        (fun (i3 : Int) =>
          iteP (decide (i3 < (t2.len : Int))) (
            idxA t2.ptr t2.len i3 1 fun b o => 
            ldI h5 b o .u8 fun t6 => 
            iteP (t6 != (IntKind.wrap .u8 (IntKind.wrap .i64 ((IntKind.wrap .i64 ((160 : Int) + i3)) - (l.len : Int))))) (
              K false h5) (
              bindI (IntKind.wrap .i64 (i3 + 1)) fun i7 => 
              J4 (i7, ()) h5)) (
            K true h5)) s.1) (i, ()) h1)) h

def m_spillwaymem_Kept (in_ : Sl) (l : Sl) (K : Bool → Heap → Prop) (h : Heap) : Prop := g_spillwaymem_Kept m_spillwaymem_Same in_ l K h

/-- (*client.Client).Send -/
def g_client_Client_Send (c : Option Addr) (K : Sl → Heap → Prop) (h : Heap) : Prop :=
  iteP c.isNone (
    K ⟨none, 0, 0⟩ h) (
    derefP c fun b o => 
    ldL h b (o + 9) fun t => 
    derefP c fun b1 o2 => 
    st h b1 (o2 + 9) (Value.slice none 0 0) fun h3 => 
    K t h3)

def m_client_Client_Send (c : Option Addr) (K : Sl → Heap → Prop) (h : Heap) : Prop := g_client_Client_Send c K h

/-- (*spillwayref21.Client).Send -/
def g_spillwayref21_Client_Send (c : Option Addr) (K : Sl → Heap → Prop) (h : Heap) : Prop :=
  iteP c.isNone (
    K ⟨none, 0, 0⟩ h) (
    derefP c fun b o => 
    ldL h b (o + 7) fun t => 
    derefP c fun b1 o2 => 
    st h b1 (o2 + 7) (Value.slice none 0 0) fun h3 => 
    K t h3)

def m_spillwayref21_Client_Send (c : Option Addr) (K : Sl → Heap → Prop) (h : Heap) : Prop := g_spillwayref21_Client_Send c K h

/-- spillwaylaw21.told -/
def g_spillwaylaw21_told (l : Sl) (K : Sl → Heap → Prop) (h : Heap) : Prop :=
  bindI 0 fun i => 
  loopM (σ := Sl × Int × Unit) (fun J2 s h3 =>
    (fun (out : Sl) (i1 : Int) =>
      iteP (decide (i1 < (l.len : Int))) (
        idxA l.ptr l.len i1 7 fun b o => 
        idxA l.ptr l.len i1 7 fun b4 o5 => 
        idxA l.ptr l.len i1 7 fun b6 o7 => 
        ldI h3 b o .i64 fun t => 
        ldI h3 b4 (o5 + 1) .i64 fun t8 => ldI h3 b4 (o5 + 1 + 1) .u8 fun t9 => ldI h3 b4 (o5 + 1 + 2) .i64 fun t10 => ldI h3 b4 (o5 + 1 + 3) .i64 fun t11 => ldI h3 b4 (o5 + 1 + 4) .i64 fun t12 => 
        ldB h3 b6 (o7 + 6) fun t13 => 
        newC h3 [Value.int .i64 t, Value.int .i64 t8, Value.int .u8 t9, Value.int .i64 t10, Value.int .i64 t11, Value.int .i64 t12, Value.bool t13] 104 fun b14 h15 => 
        need (heldL h15 [(b6, o7 + 6, Value.bool t13)]) <|
        need (heldL h15 [(b4, o5 + 1, Value.int .i64 t8), (b4, o5 + 1 + 1, Value.int .u8 t9), (b4, o5 + 1 + 2, Value.int .i64 t10), (b4, o5 + 1 + 3, Value.int .i64 t11), (b4, o5 + 1 + 4, Value.int .i64 t12)]) <|
        need (heldL h15 [(b, o, Value.int .i64 t)]) <|
        rdS ⟨some ⟨b14, 0, none⟩, 1, 1⟩ 7 h15 fun new => app 104 7 56 [Value.int .i64 0, Value.int .i64 0, Value.int .u8 0, Value.int .i64 0, Value.int .i64 0, Value.int .i64 0, Value.bool false] out 1 new h15 fun t16 h17 => 
        need (heldL h17 [(b6, o7 + 6, Value.bool t13)]) <|
        need (heldL h17 [(b4, o5 + 1, Value.int .i64 t8), (b4, o5 + 1 + 1, Value.int .u8 t9), (b4, o5 + 1 + 2, Value.int .i64 t10), (b4, o5 + 1 + 3, Value.int .i64 t11), (b4, o5 + 1 + 4, Value.int .i64 t12)]) <|
        need (heldL h17 [(b, o, Value.int .i64 t)]) <|
        bindI (IntKind.wrap .i64 (i1 + 1)) fun i18 => 
        J2 (t16, i18, ()) h17) (
        K out h3)) s.1 s.2.1) (⟨none, 0, 0⟩, i, ()) h

def m_spillwaylaw21_told (l : Sl) (K : Sl → Heap → Prop) (h : Heap) : Prop := g_spillwaylaw21_told l K h

/-- (*spillwayref21.Client).Told -/
def g_spillwayref21_Client_Told (c : Option Addr) (K : Sl → Heap → Prop) (h : Heap) : Prop :=
  iteP c.isNone (
    K ⟨none, 0, 0⟩ h) (
    derefP c fun b o => 
    ldL h b (o + 8) fun t => 
    derefP c fun b1 o2 => 
    st h b1 (o2 + 8) (Value.slice none 0 0) fun h3 => 
    K t h3)

def m_spillwayref21_Client_Told (c : Option Addr) (K : Sl → Heap → Prop) (h : Heap) : Prop := g_spillwayref21_Client_Told c K h

/-- spillwayref21.Same -/
def g_spillwayref21_Same (a : Sl) (b : Sl) (K : Bool → Heap → Prop) (h : Heap) : Prop :=
  iteP ((a.len : Int) != (b.len : Int)) (
    K false h) (
    bindI 0 fun i => 
    loopM (σ := Int × Unit) (fun J2 s h3 =>
      (fun (i1 : Int) =>
        iteP (decide (i1 < (a.len : Int))) (
          idxA a.ptr a.len i1 7 fun b4 o => 
          ldI h3 b4 o .i64 fun t => ldI h3 b4 (o + 1) .i64 fun t5 => ldI h3 b4 (o + 2) .u8 fun t6 => ldI h3 b4 (o + 3) .i64 fun t7 => ldI h3 b4 (o + 4) .i64 fun t8 => ldI h3 b4 (o + 5) .i64 fun t9 => ldB h3 b4 (o + 6) fun t10 => 
          idxA b.ptr b.len i1 7 fun b11 o12 => 
          ldI h3 b11 o12 .i64 fun t13 => ldI h3 b11 (o12 + 1) .i64 fun t14 => ldI h3 b11 (o12 + 2) .u8 fun t15 => ldI h3 b11 (o12 + 3) .i64 fun t16 => ldI h3 b11 (o12 + 4) .i64 fun t17 => ldI h3 b11 (o12 + 5) .i64 fun t18 => ldB h3 b11 (o12 + 6) fun t19 => 
          iteP (!(bif t == t13 then (bif (bif t5 == t14 then (bif t6 == t15 then (bif t7 == t16 then (bif t8 == t17 then (bif t9 == t18 then true else false) else false) else false) else false) else false) then (bif t10 == t19 then true else false) else false) else false)) (
            K false h3) (
            bindI (IntKind.wrap .i64 (i1 + 1)) fun i20 => 
            J2 (i20, ()) h3)) (
          K true h3)) s.1) (i, ()) h)

def m_spillwayref21_Same (a : Sl) (b : Sl) (K : Bool → Heap → Prop) (h : Heap) : Prop := g_spillwayref21_Same a b K h

/-- spillwaylaw21.do -/
def g_spillwaylaw21_do (f_client_Client_Tick : (Option Addr) → Int → (Int → Heap → Prop) → Heap → Prop) (f_spillwayref21_Client_Tick : (Option Addr) → Int → (Int → Heap → Prop) → Heap → Prop) (f_client_Client_Ask : (Option Addr) → Int → (Int × Int × Int × Int × ByteArray × Int × Unit) → (Int → Bool → Int → Heap → Prop) → Heap → Prop) (f_spillwayref21_Client_Ask : (Option Addr) → Int → (Int × Int × Int × Int × ByteArray × Int × Unit) → (Int → Bool → Int → Heap → Prop) → Heap → Prop) (f_client_Client_Dial : (Option Addr) → Int → (Bool → Int → Heap → Prop) → Heap → Prop) (f_spillwayref21_Client_Dial : (Option Addr) → Int → (Bool → Int → Heap → Prop) → Heap → Prop) (f_client_Client_Up : (Option Addr) → Int → (Int → Heap → Prop) → Heap → Prop) (f_spillwayref21_Client_Up : (Option Addr) → Int → (Int → Heap → Prop) → Heap → Prop) (f_client_Client_Refused : (Option Addr) → Int → (Int → Heap → Prop) → Heap → Prop) (f_spillwayref21_Client_Refused : (Option Addr) → Int → (Int → Heap → Prop) → Heap → Prop) (f_client_Client_Lost : (Option Addr) → Int → (Int → Heap → Prop) → Heap → Prop) (f_spillwayref21_Client_Lost : (Option Addr) → Int → (Int → Heap → Prop) → Heap → Prop) (f_spillwaymem_Hand : Sl → (Sl → Heap → Prop) → Heap → Prop) (f_client_Client_Bytes : (Option Addr) → Int → Sl → (Int → Heap → Prop) → Heap → Prop) (f_spillwayref21_Client_Bytes : (Option Addr) → Int → Sl → (Int → Heap → Prop) → Heap → Prop) (f_spillwaymem_Kept : Sl → Sl → (Bool → Heap → Prop) → Heap → Prop) (f_client_Client_Send : (Option Addr) → (Sl → Heap → Prop) → Heap → Prop) (f_spillwayref21_Client_Send : (Option Addr) → (Sl → Heap → Prop) → Heap → Prop) (f_spillwaymem_Same : Sl → Sl → (Bool → Heap → Prop) → Heap → Prop) (f_client_Client_Told : (Option Addr) → (Sl → Heap → Prop) → Heap → Prop) (f_spillwaylaw21_told : Sl → (Sl → Heap → Prop) → Heap → Prop) (f_spillwayref21_Client_Told : (Option Addr) → (Sl → Heap → Prop) → Heap → Prop) (f_spillwayref21_Same : Sl → Sl → (Bool → Heap → Prop) → Heap → Prop) (c : Option Addr) (r : Option Addr) (x : Int × Int × Int × Int × Int × Int × ByteArray × Int × Sl × Unit) (K : Bool → Heap → Prop) (h : Heap) : Prop :=
  newC h [Value.int .i64 x.1, Value.int .i64 x.2.1, Value.int .i64 x.2.2.1, Value.int .u8 x.2.2.2.1, Value.int .i64 x.2.2.2.2.1, Value.int .i64 x.2.2.2.2.2.1, Value.string x.2.2.2.2.2.2.1, Value.int .i64 x.2.2.2.2.2.2.2.1, Value.slice x.2.2.2.2.2.2.2.2.1.ptr x.2.2.2.2.2.2.2.2.1.len x.2.2.2.2.2.2.2.2.1.cap] 42 fun b h1 => 
  ldI h1 b 0 .i64 fun t => 
  bindB (t == 0) fun t2 => 
  iteP t2 (
    ldI h1 b (0 + 1) .i64 fun t3 => 
    ldI h1 b (0 + 1) .i64 fun t4 => 
    f_client_Client_Tick c t3 (fun t5 h6 =>
      need (heldL h6 [(b, 0 + 1, Value.int .i64 t4)]) <|
      f_spillwayref21_Client_Tick r t4 (fun t7 h8 =>
        bindB (t5 == t7) fun t9 => 
        K t9 h8) h6) h1) (
    bindB (t == 1) fun t10 => 
    iteP t10 (
      ldI h1 b (0 + 1) .i64 fun t11 => 
      ldI h1 b (0 + 2) .i64 fun t12 => ldI h1 b (0 + 2 + 1) .u8 fun t13 => ldI h1 b (0 + 2 + 2) .i64 fun t14 => ldI h1 b (0 + 2 + 3) .i64 fun t15 => ldS h1 b (0 + 2 + 4) fun t16 => ldI h1 b (0 + 2 + 5) .i64 fun t17 => 
      f_client_Client_Ask c t11 (t12, t13, t14, t15, t16, t17, ()) (fun t18 t19 t20 h21 =>
        bindI t18 fun n => 
        bindB t19 fun a => 
        bindI t20 fun e => 
        ldI h21 b (0 + 1) .i64 fun t22 => 
        ldI h21 b (0 + 2) .i64 fun t23 => ldI h21 b (0 + 2 + 1) .u8 fun t24 => ldI h21 b (0 + 2 + 2) .i64 fun t25 => ldI h21 b (0 + 2 + 3) .i64 fun t26 => ldS h21 b (0 + 2 + 4) fun t27 => ldI h21 b (0 + 2 + 5) .i64 fun t28 => 
        f_spillwayref21_Client_Ask r t22 (t23, t24, t25, t26, t27, t28, ()) (fun t29 t30 t31 h32 =>
          bindI t29 fun m => 
          bindB t30 fun b33 => 
          bindI t31 fun f => 
          iteP (n == m) (
            iteP (a == b33) (
              bindB (e == f) fun t34 => 
              K t34 h32) (
              K false h32)) (
            K false h32)) h21) h1) (
      bindB (t == 2) fun t35 => 
      iteP t35 (
        ldI h1 b (0 + 1) .i64 fun t36 => 
        f_client_Client_Dial c t36 (fun t37 t38 h39 =>
          bindB t37 fun a40 => 
          bindI t38 fun e41 => 
          ldI h39 b (0 + 1) .i64 fun t42 => 
          f_spillwayref21_Client_Dial r t42 (fun t43 t44 h45 =>
            bindB t43 fun b46 => 
            bindI t44 fun f47 => 
            iteP (a40 == b46) (
              bindB (e41 == f47) fun t48 => 
              K t48 h45) (
              K false h45)) h39) h1) (
        bindB (t == 3) fun t49 => 
        iteP t49 (
          ldI h1 b (0 + 1) .i64 fun t50 => 
          ldI h1 b (0 + 1) .i64 fun t51 => 
          f_client_Client_Up c t50 (fun t52 h53 =>
            need (heldL h53 [(b, 0 + 1, Value.int .i64 t51)]) <|
            f_spillwayref21_Client_Up r t51 (fun t54 h55 =>
              bindB (t52 == t54) fun t56 => 
              K t56 h55) h53) h1) (
          bindB (t == 4) fun t57 => 
          iteP t57 (
            ldI h1 b (0 + 1) .i64 fun t58 => 
            ldI h1 b (0 + 1) .i64 fun t59 => 
            f_client_Client_Refused c t58 (fun t60 h61 =>
              need (heldL h61 [(b, 0 + 1, Value.int .i64 t59)]) <|
              f_spillwayref21_Client_Refused r t59 (fun t62 h63 =>
                bindB (t60 == t62) fun t64 => 
                K t64 h63) h61) h1) (
            bindB (t == 5) fun t65 => 
            iteP t65 (
              ldI h1 b (0 + 1) .i64 fun t66 => 
              ldI h1 b (0 + 1) .i64 fun t67 => 
              f_client_Client_Lost c t66 (fun t68 h69 =>
                need (heldL h69 [(b, 0 + 1, Value.int .i64 t67)]) <|
                f_spillwayref21_Client_Lost r t67 (fun t70 h71 =>
                  bindB (t68 == t70) fun t72 => 
                  K t72 h71) h69) h1) (
              bindB (t == 6) fun t73 => 
              iteP t73 (
                ldL h1 b (0 + 8) fun t74 => 
                f_spillwaymem_Hand t74 (fun t75 h76 =>
                  ldI h76 b (0 + 1) .i64 fun t77 => 
                  ldI h76 b (0 + 1) .i64 fun t78 => 
                  ldL h76 b (0 + 8) fun t79 => 
                  f_client_Client_Bytes c t77 t75 (fun t80 h81 =>
                    need (heldL h81 [(b, 0 + 8, Value.slice t79.ptr t79.len t79.cap)]) <|
                    need (heldL h81 [(b, 0 + 1, Value.int .i64 t78)]) <|
                    f_spillwayref21_Client_Bytes r t78 t79 (fun t82 h83 =>
                      iteP (t80 != t82) (
                        K false h83) (
                        ldL h83 b (0 + 8) fun t84 => 
                        f_spillwaymem_Kept t75 t84 (fun t85 h86 =>
                          iteP (!t85) (
                            K false h86) (
                            bindI 0 fun i => 
                            loopM (σ := Int × Unit) (fun J88 s h89 =>
                              (fun (i87 : Int) =>
                                iteP (decide (i87 < (t75.len : Int))) (
                                  idxA t75.ptr t75.len i87 1 fun b90 o => 
                                  st h89 b90 o (Value.int .u8 9) fun h91 => 
                                  bindI (IntKind.wrap .i64 (i87 + 1)) fun i92 => 
                                  J88 (i92, ()) h91) (
                                  K true h89)) s.1) (i, ()) h86)) h83)) h81) h76) h1) (
                bindB (t == 7) fun t93 => 
                iteP t93 (
                  f_client_Client_Send c (fun t94 h95 =>
                    f_spillwayref21_Client_Send r (fun t96 h97 =>
                      f_spillwaymem_Same t94 t96 (fun t98 h99 =>
                        bindB t98 fun t100 => 
                        K t100 h99) h97) h95) h1) (
                  f_client_Client_Told c (fun t101 h102 =>
                    f_spillwaylaw21_told t101 (fun t103 h104 =>
                      f_spillwayref21_Client_Told r (fun t105 h106 =>
                        f_spillwayref21_Same t103 t105 (fun t107 h108 =>
                          bindB t107 fun t109 => 
                          K t109 h108) h106) h104) h102) h1))))))))

def m_spillwaylaw21_do (c : Option Addr) (r : Option Addr) (x : Int × Int × Int × Int × Int × Int × ByteArray × Int × Sl × Unit) (K : Bool → Heap → Prop) (h : Heap) : Prop := g_spillwaylaw21_do m_client_Client_Tick m_spillwayref21_Client_Tick m_client_Client_Ask m_spillwayref21_Client_Ask m_client_Client_Dial m_spillwayref21_Client_Dial m_client_Client_Up m_spillwayref21_Client_Up m_client_Client_Refused m_spillwayref21_Client_Refused m_client_Client_Lost m_spillwayref21_Client_Lost m_spillwaymem_Hand m_client_Client_Bytes m_spillwayref21_Client_Bytes m_spillwaymem_Kept m_client_Client_Send m_spillwayref21_Client_Send m_spillwaymem_Same m_client_Client_Told m_spillwaylaw21_told m_spillwayref21_Client_Told m_spillwayref21_Same c r x K h

/-- (*spillwayref21.Client).Connected -/
def g_spillwayref21_Client_Connected (c : Option Addr) (K : Bool → Heap → Prop) (h : Heap) : Prop :=
  iteP c.isSome (
    derefP c fun b o => 
    ldB h b (o + 4) fun t => 
    bindB t fun t1 => 
    K t1 h) (
    K false h)

def m_spillwayref21_Client_Connected (c : Option Addr) (K : Bool → Heap → Prop) (h : Heap) : Prop := g_spillwayref21_Client_Connected c K h

/-- (*spillwayref21.Client).Waiting -/
def g_spillwayref21_Client_Waiting (c : Option Addr) (K : Sl → Heap → Prop) (h : Heap) : Prop :=
  bindI 0 fun i => 
  loopM (σ := Sl × Int × Unit) (fun J2 s h3 =>
    (fun (l : Sl) (i1 : Int) =>
      iteP c.isSome (
        derefP c fun b o => 
        ldL h3 b (o + 5) fun t => 
        iteP (decide (i1 < (t.len : Int))) (
          derefP c fun b4 o5 => 
          ldL h3 b4 (o5 + 5) fun t6 => 
          idxA t6.ptr t6.len i1 2 fun b7 o8 => 
          ldI h3 b7 o8 .i64 fun t9 => 
          newC h3 [Value.int .i64 t9] 3 fun b10 h11 => 
          rdS ⟨some ⟨b10, 0, none⟩, 1, 1⟩ 1 h11 fun new => app 3 1 8 [Value.int .i64 0] l 1 new h11 fun t12 h13 => 
          bindI (IntKind.wrap .i64 (i1 + 1)) fun i14 => 
          J2 (t12, i14, ()) h13) (
          K l h3)) (
        K l h3)) s.1 s.2.1) (⟨none, 0, 0⟩, i, ()) h

def m_spillwayref21_Client_Waiting (c : Option Addr) (K : Sl → Heap → Prop) (h : Heap) : Prop := g_spillwayref21_Client_Waiting c K h

/-- spillwayref11.SameInts -/
def g_spillwayref11_SameInts (a : Sl) (b : Sl) (K : Bool → Heap → Prop) (h : Heap) : Prop :=
  iteP ((a.len : Int) != (b.len : Int)) (
    K false h) (
    bindI 0 fun i => 
    loopM (σ := Int × Unit) (fun J2 s h3 =>
      (fun (i1 : Int) =>
        iteP (decide (i1 < (a.len : Int))) (
          idxA a.ptr a.len i1 1 fun b4 o => 
          ldI h3 b4 o .i64 fun t => 
          idxA b.ptr b.len i1 1 fun b5 o6 => 
          ldI h3 b5 o6 .i64 fun t7 => 
          iteP (t != t7) (
            K false h3) (
            bindI (IntKind.wrap .i64 (i1 + 1)) fun i8 => 
            J2 (i8, ()) h3)) (
          K true h3)) s.1) (i, ()) h)

def m_spillwayref11_SameInts (a : Sl) (b : Sl) (K : Bool → Heap → Prop) (h : Heap) : Prop := g_spillwayref11_SameInts a b K h

/-- spillwaylaw21.ClientPlays -/
def g_spillwaylaw21_ClientPlays (f_client_New : (Int × Int × Int × Unit) → ByteArray → ((Option Addr) → Int → Heap → Prop) → Heap → Prop) (f_spillwayref21_New : (Int × Int × Int × Unit) → ByteArray → ((Option Addr) → Int → Heap → Prop) → Heap → Prop) (f_spillwaylaw21_live : (Bool → Heap → Prop) → Heap → Prop) (f_client_Client_Fork : (Option Addr) → ((Option Addr) → Heap → Prop) → Heap → Prop) (f_spillwayref21_Client_Fork : (Option Addr) → ((Option Addr) → Heap → Prop) → Heap → Prop) (f_spillwaylaw21_do : (Option Addr) → (Option Addr) → (Int × Int × Int × Int × Int × Int × ByteArray × Int × Sl × Unit) → (Bool → Heap → Prop) → Heap → Prop) (f_client_Client_Connected : (Option Addr) → (Bool → Heap → Prop) → Heap → Prop) (f_spillwayref21_Client_Connected : (Option Addr) → (Bool → Heap → Prop) → Heap → Prop) (f_client_Client_Waiting : (Option Addr) → (Sl → Heap → Prop) → Heap → Prop) (f_spillwayref21_Client_Waiting : (Option Addr) → (Sl → Heap → Prop) → Heap → Prop) (f_spillwayref11_SameInts : Sl → Sl → (Bool → Heap → Prop) → Heap → Prop) (s : Int × Int × Int × Unit) (name : ByteArray) (l : Sl) (K : Bool → Heap → Prop) (h : Heap) : Prop :=
  newC h [Value.int .i64 s.1, Value.int .i64 s.2.1, Value.int .i64 s.2.2.1] 23 fun b h1 => 
  ldI h1 b 0 .i64 fun t => ldI h1 b (0 + 1) .i64 fun t2 => ldI h1 b (0 + 2) .i64 fun t3 => 
  f_client_New (t, t2, t3, ()) name (fun t4 t5 h6 =>
    bindI t5 fun e => 
    ldI h6 b 0 .i64 fun t7 => 
    ldI h6 b (0 + 1) .i64 fun t8 => 
    ldI h6 b (0 + 2) .i64 fun t9 => 
    f_spillwayref21_New (t7, t8, t9, ()) name (fun t10 t11 h12 =>
      bindI t11 fun f => 
      f_spillwaylaw21_live (fun t13 h14 =>
        iteP (!t13) (
          K false h14) (
          iteP (e != f) (
            K false h14) (
            iteP (t4.isNone != t10.isNone) (
              K false h14) (
              iteP t4.isNone (
                K true h14) (
                f_client_Client_Fork t4 (fun t15 h16 =>
                  f_spillwayref21_Client_Fork t10 (fun t17 h18 =>
                    cutP (σ := Option Addr × Option Addr × Unit) (fun s59 h60 =>
                      (fun (g57 : Option Addr) (h58 : Option Addr) =>
                        f_spillwaylaw21_do g57 h58 (8, 0, 0, 0, 0, 0, ByteArray.mk #[], 0, ⟨none, 0, 0⟩, ()) (fun t61 h62 =>
                          iteP t61 (
                            f_spillwaylaw21_do g57 h58 (7, 0, 0, 0, 0, 0, ByteArray.mk #[], 0, ⟨none, 0, 0⟩, ()) (fun t63 h64 =>
                              iteP t63 (
                                f_client_Client_Connected g57 (fun t65 h66 =>
                                  f_spillwayref21_Client_Connected h58 (fun t67 h68 =>
                                    bindB (t65 == t67) fun t69 => 
                                    K t69 h68) h66) h64) (
                                K false h64)) h62) (
                            K false h62)) h60) s59.1 s59.2.1) (fun J19 =>
                      bindI 0 fun i => 
                      loopM (σ := Option Addr × Option Addr × Int × Unit) (fun J22 s23 h24 =>
                        (fun (g : Option Addr) (h20 : Option Addr) (i21 : Int) =>
                          iteP (decide (i21 < (l.len : Int))) (
                            iteP (decide (i21 < 100)) (
                              cutP (σ := Option Addr × Option Addr × Unit) (fun s32 h33 =>
                                (fun (g30 : Option Addr) (h31 : Option Addr) =>
                                  idxA l.ptr l.len i21 9 fun b34 o => 
                                  ldI h33 b34 o .i64 fun t35 => ldI h33 b34 (o + 1) .i64 fun t36 => ldI h33 b34 (o + 2) .i64 fun t37 => ldI h33 b34 (o + 3) .u8 fun t38 => ldI h33 b34 (o + 4) .i64 fun t39 => ldI h33 b34 (o + 5) .i64 fun t40 => ldS h33 b34 (o + 6) fun t41 => ldI h33 b34 (o + 7) .i64 fun t42 => ldL h33 b34 (o + 8) fun t43 => 
                                  f_spillwaylaw21_do t4 t10 (t35, t36, t37, t38, t39, t40, t41, t42, t43, ()) (fun t44 h45 =>
                                    iteP (!t44) (
                                      K false h45) (
                                      f_client_Client_Connected t4 (fun t46 h47 =>
                                        f_spillwayref21_Client_Connected t10 (fun t48 h49 =>
                                          iteP (t46 != t48) (
                                            K false h49) (
                                            f_client_Client_Waiting t4 (fun t50 h51 =>
                                              f_spillwayref21_Client_Waiting t10 (fun t52 h53 =>
                                                f_spillwayref11_SameInts t50 t52 (fun t54 h55 =>
                                                  iteP (!t54) (
                                                    K false h55) (
                                                    bindI (IntKind.wrap .i64 (i21 + 1)) fun i56 => 
                                                    J22 (g30, h31, i56, ()) h55)) h53) h51) h49)) h47) h45)) h33) s32.1 s32.2.1) (fun J25 =>
                                need ((2 : Int) ≠ 0) <| 
                                iteP (i21 == (IntKind.wrap .i64 (Int.tdiv (l.len : Int) 2))) (
                                  f_client_Client_Fork t4 (fun t26 h27 =>
                                    f_spillwayref21_Client_Fork t10 (fun t28 h29 =>
                                      J25 (t26, t28, ()) h29) h27) h24) (
                                  J25 (g, h20, ()) h24))) (
                              J19 (g, h20, ()) h24)) (
                            J19 (g, h20, ()) h24)) s23.1 s23.2.1 s23.2.2.1) (t15, t17, i, ()) h18)) h16) h14))))) h12) h6) h1

def m_spillwaylaw21_ClientPlays (s : Int × Int × Int × Unit) (name : ByteArray) (l : Sl) (K : Bool → Heap → Prop) (h : Heap) : Prop := g_spillwaylaw21_ClientPlays m_client_New m_spillwayref21_New m_spillwaylaw21_live m_client_Client_Fork m_spillwayref21_Client_Fork m_spillwaylaw21_do m_client_Client_Connected m_spillwayref21_Client_Connected m_client_Client_Waiting m_spillwayref21_Client_Waiting m_spillwayref11_SameInts s name l K h

end Go.Proofs.YtcmedplogmjiiaaGreat
