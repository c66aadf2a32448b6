import Derived.Test.YtmefopmnjncdbaaGreatChecked
import Derived.KernelRfl
import Derived.Test.YtmefopmnjncdbaaGreatMn7
set_option linter.unusedVariables false
set_option linter.unusedSimpArgs false
set_option linter.unnecessarySimpa false
set_option linter.unusedSectionVars false
set_option maxRecDepth 100000
namespace Go.Proofs.YtmefopmnjncdbaaGreat
open Go.Hb
theorem mixed:Tryz.prog.follows .mixedOrders = true:=by kernel_rfl
def str_2q:ByteArray:=⟨#[50,113]⟩
def str______:ByteArray:=⟨#[95,45,46,47,58]⟩
def str_a:ByteArray:=⟨#[97]⟩
def str_arc:ByteArray:=⟨#[97,114,99]⟩
def str_empty:ByteArray:=⟨#[]⟩
def str_lirs:ByteArray:=⟨#[108,105,114,115]⟩
def str_s3fifo:ByteArray:=⟨#[115,51,102,105,102,111]⟩
def str_tinylfu:ByteArray:=⟨#[116,105,110,121,108,102,117]⟩
def str_x:ByteArray:=⟨#[120]⟩
def f4_kp:KP:=⟨[(7,[0,3]),(10,[0,3]),(14,[])],[]⟩
noncomputable def f4_b (l:List Nat):Code:=cAtN l (bodyOf Tryz.f4)
def f4_r (Q:Value -> WP):Env -> WP:=retK Tryz.prog Tryz.f4 Q
def f4_e1 (jn:Jn) (Q:Value -> WP):Env -> WP:=seqK Tryz.prog f4_kp jn (f4_b [1,1]) (f4_r Q) noX (f4_r Q)
def f4_e3 (jn:Jn) (Q:Value -> WP) (m1:Nat):Env -> WP:=lopK Tryz.prog f4_kp jn (f4_b [1,0,1,0,0]) (blkX 0 (f4_e1 jn Q) noX) (f4_r Q) m1
def f4_j2_c (jn:Jn) (Q:Value -> WP) (m1:Nat):Env -> WP:=codeI Tryz.prog f4_kp jn (f4_b [1,0,1,0,0,1]) (f4_e3 jn Q m1) (blkX 0 (f4_e1 jn Q) noX) (f4_r Q)
def f4_j2 (jn:Jn) (Q:Value -> WP) (m1:Nat) (l0:Sl) (i3:Int):WP:=jn 10 (f4_j2_c jn Q m1) ((.slice l0.a l0.n l0.c)::us 2 ((.int .i64 i3)::us 26 []))
def f4_j3_c (jn:Jn) (Q:Value -> WP):Env -> WP:=codeI Tryz.prog f4_kp jn (f4_b [1,1]) (f4_r Q) noX (f4_r Q)
def f4_j3 (jn:Jn) (Q:Value -> WP):WP:=jn 14 (f4_j3_c jn Q ) (us 30 [])
def f4_l1 (jn:Jn) (Q:Value -> WP) (m1:Nat) (l0:Sl) (i3:Int):WP:=lop Tryz.prog f4_kp jn (f4_b [1,0,1,0,0]) (blkX 0 (f4_e1 jn Q) noX) (f4_r Q) m1 ((.slice l0.a l0.n l0.c)::us 2 ((.int .i64 i3)::us 26 []))
theorem f4_j2_raw {jn:Jn} {Q:Value -> WP} {m1:Nat} {l0:Sl} {i3:Int}:f4_j2_c jn Q m1 ((.slice l0.a l0.n l0.c)::us 2 ((.int .i64 i3)::us 26 [])) = (
 idx l0.a l0.n i3 fun b_1 o_2=>
 ld .str b_1 ((o_2 + (i3).toNat * 4) + 1) fun (x_3:ByteArray)=>
 ite2 (decide ((x_3.size:Int) > 40)) (
 Q (.bool true)) (
 idx l0.a l0.n i3 fun b_4 o_5=>
 ld .str b_4 ((o_5 + (i3).toNat * 4) + 2) fun (x_6:ByteArray)=>
 ite2 (decide ((x_6.size:Int) > 100)) (
 Q (.bool true)) (
 f4_l1 jn Q  m1 l0 (IntKind.wrap .i64 (i3 + 1))))):=by kernel_rfl
theorem f4_j3_raw {jn:Jn} {Q:Value -> WP}:f4_j3_c jn Q  (us 30 []) = (
 Q (.bool false)):=by kernel_rfl
theorem f4_l1_raw {jn:Jn} {Q:Value -> WP} {m1:Nat} {l0:Sl} {i3:Int}:f4_l1 jn Q  (m1 + 1) l0 i3 = (
 ite2 (decide (i3 < (l0.n:Int))) (
 ite2 (decide (i3 < 120)) (
 f4_j2 jn Q m1 l0 i3) (
 f4_j3 jn Q  )) (
 f4_j3 jn Q  )):=by kernel_rfl
theorem f4_raw {jn:Jn} {l0:Sl} {Q:Value -> WP}:funJ jn Tryz.prog f4_kp Tryz.f4 [.slice l0.a l0.n l0.c] Q = (
 exM fun m=>f4_l1 jn Q  m l0 0):=by kernel_rfl
theorem f4_ok:FnOk Tryz.prog 4 Tryz.f4:=⟨mixed,Tryz.func4,rfl⟩
def f5_kp:KP:=⟨[],[]⟩
theorem f5_raw {jn:Jn} {c0_0 c0_1 c0_2 c0_3 c0_4 c0_5 c0_6:Int} {c0_7:Sl} {Q:Value -> WP}:funJ jn Tryz.prog f5_kp Tryz.f5 [.agg #[.int .i64 c0_0,.int .i64 c0_1,.int .i64 c0_2,.int .i64 c0_3,.int .i64 c0_4,.int .i64 c0_5,.int .i64 c0_6,.slice c0_7.a c0_7.n c0_7.c]] Q = (
 newB [.int .i64 c0_0,.int .i64 c0_1,.int .i64 c0_2,.int .i64 c0_3,.int .i64 c0_4,.int .i64 c0_5,.int .i64 c0_6,.slice c0_7.a c0_7.n c0_7.c] 24 fun b_1=>
 ld (.int .i64) b_1 1 fun (x_2:Int)=>
 ite2 (decide (x_2 <= 64)) (
 ld (.int .i64) b_1 2 fun (x_3:Int)=>
 ite2 (decide (x_3 <= 64)) (
 ld (.int .i64) b_1 3 fun (x_4:Int)=>
 ite2 (decide (x_4 <= 64)) (
 ld .slc b_1 7 fun (x_5:Sl)=>
 Q (.bool (decide ((x_5.n:Int) <= 100)))) (
 Q (.bool false))) (
 Q (.bool false))) (
 Q (.bool false))):=by kernel_rfl
theorem f5_ok:FnOk Tryz.prog 5 Tryz.f5:=⟨mixed,Tryz.func5,rfl⟩
def f6_kp:KP:=⟨[(8,[1]),(13,[1,4,5]),(24,[1,4])],[(11,[0,1,2,3,5,6,8,11,12,13,14,15])]⟩
noncomputable def f6_b (l:List Nat):Code:=cAtN l (bodyOf Tryz.f6)
def f6_r (Q:Value -> WP):Env -> WP:=retK Tryz.prog Tryz.f6 Q
def f6_e5 (jn:Jn) (Q:Value -> WP):Env -> WP:=seqK Tryz.prog f6_kp jn (f6_b [1,1,1,1]) (f6_r Q) noX (f6_r Q)
def f6_j3_c (jn:Jn) (Q:Value -> WP):Env -> WP:=codeI Tryz.prog f6_kp jn (f6_b [1,1,1,1]) (f6_r Q) noX (f6_r Q)
def f6_j3 (jn:Jn) (Q:Value -> WP) (c1_b c1_o x4_b x4_o:Nat):WP:=jn 24 (f6_j3_c jn Q ) (us 1 ((.pointer (some ⟨c1_b,c1_o,none⟩))::us 2 ((.pointer (some ⟨x4_b,x4_o,none⟩))::us 99 [])))
def f6_l2 (jn:Jn) (Q:Value -> WP) (m2:Nat) (c1_b c1_o x4_b x4_o:Nat) (i5:Int):WP:=lop Tryz.prog f6_kp jn (f6_b [1,1,1,0,1,0,0]) (blkX 0 (f6_e5 jn Q) noX) (f6_r Q) m2 (us 1 ((.pointer (some ⟨c1_b,c1_o,none⟩))::us 2 ((.pointer (some ⟨x4_b,x4_o,none⟩))::(.int .i64 i5)::us 98 [])))
def f6_j1_c (jn:Jn) (Q:Value -> WP):Env -> WP:=codeI Tryz.prog f6_kp jn (f6_b [1,1]) (f6_r Q) noX (f6_r Q)
def f6_j1 (jn:Jn) (Q:Value -> WP) (c1_b c1_o:Nat):WP:=jn 8 (f6_j1_c jn Q ) (us 1 ((.pointer (some ⟨c1_b,c1_o,none⟩))::us 102 []))
theorem f6_j3_raw {jn:Jn} {Q:Value -> WP} {c1_b c1_o x4_b x4_o:Nat}:f6_j3_c jn Q  (us 1 ((.pointer (some ⟨c1_b,c1_o,none⟩))::us 2 ((.pointer (some ⟨x4_b,x4_o,none⟩))::us 99 []))) = (
 drawW fun S=>
 ldS S (.int .i64) c1_b (c1_o + 6) fun (x_23:Int)=>
 ldS S (.int .i64) c1_b (c1_o + 5) fun (x_24:Int)=>
 ldS S .slc c1_b (c1_o + 7) fun (x_25:Sl)=>
 newB [] 171 fun b_26=>
 keepS true S <|
 appendC 171 1 4 [.int .u32 0] ⟨(some ⟨b_26,0,none⟩),0,0⟩ x_25.n (fun w=>rdA w x_25.a (x_25.n * 1)) fun s_27=>
 keepS true S <|
 newB [.slice s_27.a s_27.n s_27.c,.int .i64 0] 54 fun b_28=>
 keepS true S <|
 call2 .ptr (.int .i64) Tryz.prog 11 [.int .i64 x_23,.int .i64 x_24,.pointer (some ⟨b_28,0,none⟩)] fun (x_29:Option Addr) (x_30:Int)=>
 ite2 (x_30 != 0) (
 Q (.tuple #[.pointer none,.int .i64 x_30])) (
 ld (.int .i64) c1_b (c1_o + 4) fun (x_31:Int)=>
 ld (.int .i64) c1_b (c1_o + 1) fun (x_32:Int)=>
 ld (.int .i64) c1_b c1_o fun (x_33:Int)=>
 call1 .ptr Tryz.prog 12 [.int .i64 x_31,.int .i64 (IntKind.wrap .i64 (x_32 * x_33))] fun (x_34:Option Addr)=>
 nilck (some ⟨x4_b,x4_o,none⟩) fun b_35 o_36=>
 st b_35 (o_36 + 2) (.pointer x_29) <|
 nilck (some ⟨x4_b,x4_o,none⟩) fun b_37 o_38=>
 st b_37 (o_38 + 1) (.pointer x_34) <|
 Q (.tuple #[.pointer (some ⟨x4_b,x4_o,none⟩),.int .i64 0]))):=by kernel_rfl
theorem f6_l2_raw {jn:Jn} {Q:Value -> WP} {m2:Nat} {c1_b c1_o x4_b x4_o:Nat} {i5:Int}:f6_l2 jn Q  (m2 + 1) c1_b c1_o x4_b x4_o i5 = (
 ld (.int .i64) c1_b c1_o fun (x_9:Int)=>
 ite2 (decide (i5 < x_9)) (
 ld (.int .i64) c1_b (c1_o + 1) fun (x_10:Int)=>
 ld (.int .i64) c1_b (c1_o + 2) fun (x_11:Int)=>
 ld (.int .i64) c1_b (c1_o + 3) fun (x_12:Int)=>
 ld (.int .i64) c1_b (c1_o + 6) fun (x_13:Int)=>
 call2 .ptr (.int .i64) Tryz.prog 10 [.int .i64 x_10,.int .i64 x_11,.int .i64 x_12,.int .i64 x_13] fun (x_14:Option Addr) (x_15:Int)=>
 ite2 (x_15 != 0) (
 Q (.tuple #[.pointer none,.int .i64 x_15])) (
 nilck (some ⟨x4_b,x4_o,none⟩) fun b_16 o_17=>
 ld .slc b_16 o_17 fun (x_18:Sl)=>
 newB [.pointer x_14] 47 fun b_19=>
 appendC 47 1 8 [.pointer none] ⟨x_18.a,x_18.n,x_18.c⟩ 1 (fun w=>rdA w (some ⟨b_19,0,none⟩) (1 * 1)) fun s_20=>
 nilck (some ⟨x4_b,x4_o,none⟩) fun b_21 o_22=>
 st b_21 o_22 (.slice s_20.a s_20.n s_20.c) <|
 f6_l2 jn Q  m2 c1_b c1_o x4_b x4_o (IntKind.wrap .i64 (i5 + 1)))) (
 f6_j3 jn Q  c1_b c1_o x4_b x4_o)):=by kernel_rfl
theorem f6_j1_raw {jn:Jn} {Q:Value -> WP} {c1_b c1_o:Nat}:f6_j1_c jn Q  (us 1 ((.pointer (some ⟨c1_b,c1_o,none⟩))::us 102 [])) = (
 newB [.slice none 0 0,.pointer none,.pointer none,.int .i64 0] 46 fun b_8=>
 exM fun m=>f6_l2 jn Q  m c1_b c1_o b_8 0 0):=by kernel_rfl
theorem f6_raw {jn:Jn} {c0_0 c0_1 c0_2 c0_3 c0_4 c0_5 c0_6:Int} {c0_7:Sl} {Q:Value -> WP}:funJ jn Tryz.prog f6_kp Tryz.f6 [.agg #[.int .i64 c0_0,.int .i64 c0_1,.int .i64 c0_2,.int .i64 c0_3,.int .i64 c0_4,.int .i64 c0_5,.int .i64 c0_6,.slice c0_7.a c0_7.n c0_7.c]] Q = (
 newB [.int .i64 c0_0,.int .i64 c0_1,.int .i64 c0_2,.int .i64 c0_3,.int .i64 c0_4,.int .i64 c0_5,.int .i64 c0_6,.slice c0_7.a c0_7.n c0_7.c] 24 fun b_1=>
 ld (.int .i64) b_1 0 fun (x_2:Int)=>
 ite2 (decide (x_2 < 1)) (
 Q (.tuple #[.pointer none,.int .i64 1])) (
 ld (.int .i64) b_1 0 fun (x_3:Int)=>
 ite2 (decide (x_3 > 8)) (
 Q (.tuple #[.pointer none,.int .i64 1])) (
 ld (.int .i64) b_1 1 fun (x_4:Int)=>
 ite2 (decide (x_4 < 1)) (
 Q (.tuple #[.pointer none,.int .i64 1])) (
 ld (.int .i64) b_1 1 fun (x_5:Int)=>
 ite2 (decide (x_5 > 1024)) (
 Q (.tuple #[.pointer none,.int .i64 1])) (
 ld (.int .i64) b_1 4 fun (x_6:Int)=>
 ite2 (decide (x_6 < 0)) (
 Q (.tuple #[.pointer none,.int .i64 1])) (
 ld (.int .i64) b_1 4 fun (x_7:Int)=>
 ite2 (decide (x_7 > 16777216)) (
 Q (.tuple #[.pointer none,.int .i64 1])) (
 f6_j1 jn Q  b_1 0))))))):=by kernel_rfl
theorem f6_ok:FnOk Tryz.prog 6 Tryz.f6:=⟨mixed,Tryz.func6,rfl⟩
def f7_kp:KP:=⟨[],[]⟩
theorem f7_raw {jn:Jn} {Q:Value -> WP}:funJ jn Tryz.prog f7_kp Tryz.f7 [] Q = (
 call1 .ptr Tryz.prog 13 [.int .i64 1,.int .i64 1] fun (x_1:Option Addr)=>
 ite2 (!Option.isNone x_1) (
 call1 .bool Tryz.prog 14 [.pointer x_1,.agg #[.int .i64 1,.string str_a,.string str_empty,.int .i64 0],.agg #[.int .i64 0,.bool true,.string str_x,.slice none 0 0]] fun (x_2:Bool)=>
 Q (.bool (!x_2))) (
 Q (.bool false))):=by kernel_rfl
theorem f7_ok:FnOk Tryz.prog 7 Tryz.f7:=⟨mixed,Tryz.func7,rfl⟩
def f8_kp:KP:=⟨[(36,[0,3,4,16,99])],[(3,[0,1,2,4,5,6,7,8,9,11,12,13,14,15,16,17,18,19]),(6,[0,1,2,4,5,6,7,8,9,10,11,12,13,15,16,17,18,19]),(9,[0,1,2,4,5,6,7,8,9,11,12,13,14,15,16,17]),(21,[0,1,2,3,4,7])]⟩
noncomputable def f8_b (l:List Nat):Code:=cAtN l (bodyOf Tryz.f8)
def f8_r (Q:Value -> WP):Env -> WP:=retK Tryz.prog Tryz.f8 Q
def f8_e1 (jn:Jn) (Q:Value -> WP):Env -> WP:=seqK Tryz.prog f8_kp jn (f8_b [1,1]) (f8_r Q) noX (f8_r Q)
def f8_j1_c (jn:Jn) (Q:Value -> WP):Env -> WP:=codeI Tryz.prog f8_kp jn (f8_b [1,0,1,0,1,1,1,1,1,1,1,1,1]) (f8_e1 jn Q) (blkX 0 (f8_e1 jn Q) noX) (f8_r Q)
def f8_j1 (jn:Jn) (Q:Value -> WP) (c0:Option Addr) (o3_b o3_o t4_b t4_o:Nat) (t16:Int) (t99:Bool):WP:=jn 36 (f8_j1_c jn Q ) ((.pointer c0)::us 2 ((.pointer (some ⟨o3_b,o3_o,none⟩))::(.pointer (some ⟨t4_b,t4_o,none⟩))::us 11 ((.int .i64 t16)::us 82 ((.bool t99)::us 34 []))))
theorem f8_j1_raw {jn:Jn} {Q:Value -> WP} {c0:Option Addr} {o3_b o3_o t4_b t4_o:Nat} {t16:Int} {t99:Bool}:f8_j1_c jn Q  ((.pointer c0)::us 2 ((.pointer (some ⟨o3_b,o3_o,none⟩))::(.pointer (some ⟨t4_b,t4_o,none⟩))::us 11 ((.int .i64 t16)::us 82 ((.bool t99)::us 34 [])))) = (
 ite2 t99 (
 ld (.int .i64) o3_b o3_o fun (x_74:Int)=>
 ld .str o3_b (o3_o + 1) fun (x_75:ByteArray)=>
 ld .str o3_b ((o3_o + 1) + 1) fun (x_76:ByteArray)=>
 ld (.int .i64) o3_b (((o3_o + 1) + 1) + 1) fun (x_77:Int)=>
 fun w=>Calls Tryz.prog 21 #[.pointer c0,.agg #[.int .i64 x_74,.string x_75,.string x_76,.int .i64 x_77]] w fun e w'=>∃ x_78:Int,∃ x_79:Bool,∃ x_80:ByteArray,∃ x_81:Sl,e = .returned (.agg #[.int .i64 x_78,.bool x_79,.string x_80,.slice x_81.a x_81.n x_81.c]) /\ (
 st t4_b t4_o (.int .i64 x_78) <|
 st t4_b (t4_o + 1) (.bool x_79) <|
 st t4_b ((t4_o + 1) + 1) (.string x_80) <|
 st t4_b (((t4_o + 1) + 1) + 1) (.slice x_81.a x_81.n x_81.c) <|
 ld (.int .i64) t4_b t4_o fun (x_82:Int)=>
 ld .bool t4_b (t4_o + 1) fun (x_83:Bool)=>
 ld .str t4_b ((t4_o + 1) + 1) fun (x_84:ByteArray)=>
 ld .slc t4_b (((t4_o + 1) + 1) + 1) fun (x_85:Sl)=>
 Q (.agg #[.int .i64 x_82,.bool x_83,.string x_84,.slice x_85.a x_85.n x_85.c])) w') (
 ite2 (t16 == 7) (
 fun w=>Calls Tryz.prog 22 #[.pointer c0] w fun e w'=>∃ x_86:Int,∃ x_87:Bool,∃ x_88:ByteArray,∃ x_89:Sl,e = .returned (.agg #[.int .i64 x_86,.bool x_87,.string x_88,.slice x_89.a x_89.n x_89.c]) /\ (
 st t4_b t4_o (.int .i64 x_86) <|
 st t4_b (t4_o + 1) (.bool x_87) <|
 st t4_b ((t4_o + 1) + 1) (.string x_88) <|
 st t4_b (((t4_o + 1) + 1) + 1) (.slice x_89.a x_89.n x_89.c) <|
 ld (.int .i64) t4_b t4_o fun (x_90:Int)=>
 ld .bool t4_b (t4_o + 1) fun (x_91:Bool)=>
 ld .str t4_b ((t4_o + 1) + 1) fun (x_92:ByteArray)=>
 ld .slc t4_b (((t4_o + 1) + 1) + 1) fun (x_93:Sl)=>
 Q (.agg #[.int .i64 x_90,.bool x_91,.string x_92,.slice x_93.a x_93.n x_93.c])) w') (
 ite2 (t16 == 8) (
 drawW fun S=>
 nilck c0 fun b_94 o_95=>
 ldS S .ptr b_94 (o_95 + 2) fun (x_96:Option Addr)=>
 ld (.int .i64) o3_b (o3_o + 3) fun (x_97:Int)=>
 keepS true S <|
 call1 (.int .i64) Tryz.prog 23 [.pointer x_96,.int .i64 x_97] fun (x_98:Int)=>
 ite2 (x_98 != 0) (
 st t4_b t4_o (.int .i64 x_98) <|
 st t4_b (t4_o + 1) (.bool false) <|
 st t4_b ((t4_o + 1) + 1) (.string str_empty) <|
 st t4_b (((t4_o + 1) + 1) + 1) (.slice none 0 0) <|
 ld (.int .i64) t4_b t4_o fun (x_99:Int)=>
 ld .bool t4_b (t4_o + 1) fun (x_100:Bool)=>
 ld .str t4_b ((t4_o + 1) + 1) fun (x_101:ByteArray)=>
 ld .slc t4_b (((t4_o + 1) + 1) + 1) fun (x_102:Sl)=>
 Q (.agg #[.int .i64 x_99,.bool x_100,.string x_101,.slice x_102.a x_102.n x_102.c])) (
 ld (.int .i64) o3_b (o3_o + 3) fun (x_103:Int)=>
 call0 Tryz.prog 24 [.pointer c0,.int .i64 x_103] <|
 st t4_b t4_o (.int .i64 0) <|
 st t4_b (t4_o + 1) (.bool false) <|
 st t4_b ((t4_o + 1) + 1) (.string str_empty) <|
 st t4_b (((t4_o + 1) + 1) + 1) (.slice none 0 0) <|
 ld (.int .i64) t4_b t4_o fun (x_104:Int)=>
 ld .bool t4_b (t4_o + 1) fun (x_105:Bool)=>
 ld .str t4_b ((t4_o + 1) + 1) fun (x_106:ByteArray)=>
 ld .slc t4_b (((t4_o + 1) + 1) + 1) fun (x_107:Sl)=>
 Q (.agg #[.int .i64 x_104,.bool x_105,.string x_106,.slice x_107.a x_107.n x_107.c]))) (
 ite2 (t16 == 9) (
 ld (.int .i64) o3_b (o3_o + 3) fun (x_108:Int)=>
 fun w=>Calls Tryz.prog 25 #[.pointer c0,.int .i64 x_108] w fun e w'=>∃ x_109:Int,∃ x_110:Bool,∃ x_111:ByteArray,∃ x_112:Sl,e = .returned (.agg #[.int .i64 x_109,.bool x_110,.string x_111,.slice x_112.a x_112.n x_112.c]) /\ (
 st t4_b t4_o (.int .i64 x_109) <|
 st t4_b (t4_o + 1) (.bool x_110) <|
 st t4_b ((t4_o + 1) + 1) (.string x_111) <|
 st t4_b (((t4_o + 1) + 1) + 1) (.slice x_112.a x_112.n x_112.c) <|
 ld (.int .i64) t4_b t4_o fun (x_113:Int)=>
 ld .bool t4_b (t4_o + 1) fun (x_114:Bool)=>
 ld .str t4_b ((t4_o + 1) + 1) fun (x_115:ByteArray)=>
 ld .slc t4_b (((t4_o + 1) + 1) + 1) fun (x_116:Sl)=>
 Q (.agg #[.int .i64 x_113,.bool x_114,.string x_115,.slice x_116.a x_116.n x_116.c])) w') (
 st t4_b t4_o (.int .i64 7) <|
 st t4_b (t4_o + 1) (.bool false) <|
 st t4_b ((t4_o + 1) + 1) (.string str_empty) <|
 st t4_b (((t4_o + 1) + 1) + 1) (.slice none 0 0) <|
 ld (.int .i64) t4_b t4_o fun (x_117:Int)=>
 ld .bool t4_b (t4_o + 1) fun (x_118:Bool)=>
 ld .str t4_b ((t4_o + 1) + 1) fun (x_119:ByteArray)=>
 ld .slc t4_b (((t4_o + 1) + 1) + 1) fun (x_120:Sl)=>
 Q (.agg #[.int .i64 x_117,.bool x_118,.string x_119,.slice x_120.a x_120.n x_120.c])))))):=by kernel_rfl
theorem f8_raw {jn:Jn} {c0:Option Addr} {o1_0:Int} {o1_1 o1_2:ByteArray} {o1_3:Int} {Q:Value -> WP}:funJ jn Tryz.prog f8_kp Tryz.f8 [.pointer c0,.agg #[.int .i64 o1_0,.string o1_1,.string o1_2,.int .i64 o1_3]] Q = (
 newB [.int .i64 o1_0,.string o1_1,.string o1_2,.int .i64 o1_3] 39 fun b_1=>
 newB [.int .i64 0,.bool false,.string str_empty,.slice none 0 0] 36 fun b_2=>
 ld (.int .i64) b_1 0 fun (x_3:Int)=>
 ite2 (x_3 == 1) (
 drawW fun S=>
 ldS S .str b_1 1 fun (x_4:ByteArray)=>
 ldS S .str b_1 1 fun (x_5:ByteArray)=>
 nilck c0 fun b_6 o_7=>
 ldS S (.int .i64) b_6 (o_7 + 3) fun (x_8:Int)=>
 call1 .ptr Tryz.prog 15 [.pointer c0,.string x_4] fun (x_9:Option Addr)=>
 keepS true S <|
 fun w=>Calls Tryz.prog 16 #[.pointer x_9,.string x_5,.int .i64 x_8] w fun e w'=>∃ x_10:ByteArray,∃ x_11:Bool,∃ x_12:Sl,∃ x_13:Int,e = .returned (.tuple #[.string x_10,.bool x_11,.slice x_12.a x_12.n x_12.c,.int .i64 x_13]) /\ (
 ld (.int .i64) b_1 0 fun (x_14:Int)=>
 ld .str b_1 1 fun (x_15:ByteArray)=>
 ld .str b_1 2 fun (x_16:ByteArray)=>
 ld (.int .i64) b_1 3 fun (x_17:Int)=>
 fun w=>Calls Tryz.prog 17 #[.pointer c0,.agg #[.int .i64 x_14,.string x_15,.string x_16,.int .i64 x_17],.agg #[.int .i64 0,.bool x_11,.string x_10,.slice x_12.a x_12.n x_12.c],.int .i64 x_13] w fun e w'=>∃ x_18:Int,∃ x_19:Bool,∃ x_20:ByteArray,∃ x_21:Sl,e = .returned (.agg #[.int .i64 x_18,.bool x_19,.string x_20,.slice x_21.a x_21.n x_21.c]) /\ (
 st b_2 0 (.int .i64 x_18) <|
 st b_2 1 (.bool x_19) <|
 st b_2 2 (.string x_20) <|
 st b_2 3 (.slice x_21.a x_21.n x_21.c) <|
 ld (.int .i64) b_2 0 fun (x_22:Int)=>
 ld .bool b_2 1 fun (x_23:Bool)=>
 ld .str b_2 2 fun (x_24:ByteArray)=>
 ld .slc b_2 3 fun (x_25:Sl)=>
 Q (.agg #[.int .i64 x_22,.bool x_23,.string x_24,.slice x_25.a x_25.n x_25.c])) w') w') (
 ite2 (x_3 == 2) (
 drawW fun S=>
 ldS S .str b_1 1 fun (x_26:ByteArray)=>
 ldS S .str b_1 1 fun (x_27:ByteArray)=>
 ldS S .str b_1 2 fun (x_28:ByteArray)=>
 nilck c0 fun b_29 o_30=>
 ldS S (.int .i64) b_29 (o_30 + 3) fun (x_31:Int)=>
 ldS S (.int .i64) b_1 3 fun (x_32:Int)=>
 call1 .ptr Tryz.prog 15 [.pointer c0,.string x_26] fun (x_33:Option Addr)=>
 keepS true S <|
 call2 .slc (.int .i64) Tryz.prog 18 [.pointer x_33,.string x_27,.string x_28,.int .i64 x_31,.int .i64 x_32] fun (x_34:Sl) (x_35:Int)=>
 ld (.int .i64) b_1 0 fun (x_36:Int)=>
 ld .str b_1 1 fun (x_37:ByteArray)=>
 ld .str b_1 2 fun (x_38:ByteArray)=>
 ld (.int .i64) b_1 3 fun (x_39:Int)=>
 fun w=>Calls Tryz.prog 17 #[.pointer c0,.agg #[.int .i64 x_36,.string x_37,.string x_38,.int .i64 x_39],.agg #[.int .i64 0,.bool false,.string str_empty,.slice x_34.a x_34.n x_34.c],.int .i64 x_35] w fun e w'=>∃ x_40:Int,∃ x_41:Bool,∃ x_42:ByteArray,∃ x_43:Sl,e = .returned (.agg #[.int .i64 x_40,.bool x_41,.string x_42,.slice x_43.a x_43.n x_43.c]) /\ (
 st b_2 0 (.int .i64 x_40) <|
 st b_2 1 (.bool x_41) <|
 st b_2 2 (.string x_42) <|
 st b_2 3 (.slice x_43.a x_43.n x_43.c) <|
 ld (.int .i64) b_2 0 fun (x_44:Int)=>
 ld .bool b_2 1 fun (x_45:Bool)=>
 ld .str b_2 2 fun (x_46:ByteArray)=>
 ld .slc b_2 3 fun (x_47:Sl)=>
 Q (.agg #[.int .i64 x_44,.bool x_45,.string x_46,.slice x_47.a x_47.n x_47.c])) w') (
 ite2 (x_3 == 3) (
 drawW fun S=>
 ldS S .str b_1 1 fun (x_48:ByteArray)=>
 ldS S .str b_1 1 fun (x_49:ByteArray)=>
 nilck c0 fun b_50 o_51=>
 ldS S (.int .i64) b_50 (o_51 + 3) fun (x_52:Int)=>
 call1 .ptr Tryz.prog 15 [.pointer c0,.string x_48] fun (x_53:Option Addr)=>
 keepS true S <|
 call3 .bool .slc (.int .i64) Tryz.prog 19 [.pointer x_53,.string x_49,.int .i64 x_52] fun (x_54:Bool) (x_55:Sl) (x_56:Int)=>
 ite2 (x_56 != 0) (
 st b_2 0 (.int .i64 x_56) <|
 st b_2 1 (.bool false) <|
 st b_2 2 (.string str_empty) <|
 st b_2 3 (.slice none 0 0) <|
 ld (.int .i64) b_2 0 fun (x_57:Int)=>
 ld .bool b_2 1 fun (x_58:Bool)=>
 ld .str b_2 2 fun (x_59:ByteArray)=>
 ld .slc b_2 3 fun (x_60:Sl)=>
 Q (.agg #[.int .i64 x_57,.bool x_58,.string x_59,.slice x_60.a x_60.n x_60.c])) (
 st b_2 0 (.int .i64 0) <|
 st b_2 1 (.bool x_54) <|
 st b_2 2 (.string str_empty) <|
 st b_2 3 (.slice x_55.a x_55.n x_55.c) <|
 ld (.int .i64) b_2 0 fun (x_61:Int)=>
 ld .bool b_2 1 fun (x_62:Bool)=>
 ld .str b_2 2 fun (x_63:ByteArray)=>
 ld .slc b_2 3 fun (x_64:Sl)=>
 Q (.agg #[.int .i64 x_61,.bool x_62,.string x_63,.slice x_64.a x_64.n x_64.c]))) (
 ite2 (x_3 == 4) (
 ld (.int .i64) b_1 3 fun (x_65:Int)=>
 fun w=>Calls Tryz.prog 20 #[.pointer c0,.int .i64 x_65] w fun e w'=>∃ x_66:Int,∃ x_67:Bool,∃ x_68:ByteArray,∃ x_69:Sl,e = .returned (.agg #[.int .i64 x_66,.bool x_67,.string x_68,.slice x_69.a x_69.n x_69.c]) /\ (
 st b_2 0 (.int .i64 x_66) <|
 st b_2 1 (.bool x_67) <|
 st b_2 2 (.string x_68) <|
 st b_2 3 (.slice x_69.a x_69.n x_69.c) <|
 ld (.int .i64) b_2 0 fun (x_70:Int)=>
 ld .bool b_2 1 fun (x_71:Bool)=>
 ld .str b_2 2 fun (x_72:ByteArray)=>
 ld .slc b_2 3 fun (x_73:Sl)=>
 Q (.agg #[.int .i64 x_70,.bool x_71,.string x_72,.slice x_73.a x_73.n x_73.c])) w') (
 ite2 (x_3 == 5) (
 f8_j1 jn Q  c0 b_1 0 b_2 0 x_3 (x_3 == 5)) (
 f8_j1 jn Q  c0 b_1 0 b_2 0 x_3 (x_3 == 6))))))):=by kernel_rfl
theorem f8_ok:FnOk Tryz.prog 8 Tryz.f8:=⟨mixed,Tryz.func8,rfl⟩
def f9_kp:KP:=⟨[(9,[2,3,9,18,19]),(18,[])],[(5,[0,1,2,3,4,5,6,7,10])]⟩
noncomputable def f9_b (l:List Nat):Code:=cAtN l (bodyOf Tryz.f9)
def f9_r (Q:Value -> WP):Env -> WP:=retK Tryz.prog Tryz.f9 Q
def f9_e2 (jn:Jn) (Q:Value -> WP):Env -> WP:=seqK Tryz.prog f9_kp jn (f9_b [1,1,1]) (f9_r Q) noX (f9_r Q)
def f9_j2_c (jn:Jn) (Q:Value -> WP):Env -> WP:=codeI Tryz.prog f9_kp jn (f9_b [1,1,1]) (f9_r Q) noX (f9_r Q)
def f9_j2 (jn:Jn) (Q:Value -> WP):WP:=jn 18 (f9_j2_c jn Q ) (us 35 [])
def f9_l1 (jn:Jn) (Q:Value -> WP) (m1:Nat) (l2 r3:Sl) (j9:Option Addr) (t18 t19:Int):WP:=lop Tryz.prog f9_kp jn (f9_b [1,1,0,1,0,0]) (blkX 0 (f9_e2 jn Q) noX) (f9_r Q) m1 (us 2 ((.slice l2.a l2.n l2.c)::(.slice r3.a r3.n r3.c)::us 5 ((.pointer j9)::us 8 ((.int .i64 t18)::(.int .i64 t19)::us 15 []))))
theorem f9_j2_raw {jn:Jn} {Q:Value -> WP}:f9_j2_c jn Q  (us 35 []) = (
 Q (.int .i64 (-1))):=by kernel_rfl
theorem f9_l1_raw {jn:Jn} {Q:Value -> WP} {m1:Nat} {l2 r3:Sl} {j9:Option Addr} {t18 t19:Int}:f9_l1 jn Q  (m1 + 1) l2 r3 j9 t18 t19 = (
 ite2 (decide (t19 < t18)) (
 drawW fun S=>
 idx l2.a l2.n t19 fun b_2 o_3=>
 ldS S (.int .i64) b_2 (o_3 + (t19).toNat * 4) fun (x_4:Int)=>
 ldS S .str b_2 ((o_3 + (t19).toNat * 4) + 1) fun (x_5:ByteArray)=>
 ldS S .str b_2 (((o_3 + (t19).toNat * 4) + 1) + 1) fun (x_6:ByteArray)=>
 ldS S (.int .i64) b_2 ((((o_3 + (t19).toNat * 4) + 1) + 1) + 1) fun (x_7:Int)=>
 idx r3.a r3.n t19 fun b_8 o_9=>
 ld (.int .i64) b_8 (o_9 + (t19).toNat * 4) fun (x_10:Int)=>
 ld .bool b_8 ((o_9 + (t19).toNat * 4) + 1) fun (x_11:Bool)=>
 ld .str b_8 (((o_9 + (t19).toNat * 4) + 1) + 1) fun (x_12:ByteArray)=>
 ld .slc b_8 ((((o_9 + (t19).toNat * 4) + 1) + 1) + 1) fun (x_13:Sl)=>
 keepS true S <|
 call1 .bool Tryz.prog 14 [.pointer j9,.agg #[.int .i64 x_4,.string x_5,.string x_6,.int .i64 x_7],.agg #[.int .i64 x_10,.bool x_11,.string x_12,.slice x_13.a x_13.n x_13.c]] fun (x_14:Bool)=>
 ite2 (!x_14) (
 Q (.int .i64 t19)) (
 f9_l1 jn Q  m1 l2 r3 j9 t18 (IntKind.wrap .i64 (t19 + 1)))) (
 f9_j2 jn Q  )):=by kernel_rfl
theorem f9_raw {jn:Jn} {shards0 room1:Int} {l2 r3:Sl} {Q:Value -> WP}:funJ jn Tryz.prog f9_kp Tryz.f9 [.int .i64 shards0,.int .i64 room1,.slice l2.a l2.n l2.c,.slice r3.a r3.n r3.c] Q = (
 call1 .ptr Tryz.prog 13 [.int .i64 shards0,.int .i64 room1] fun (x_1:Option Addr)=>
 exM fun m=>f9_l1 jn Q  m l2 r3 x_1 (if (r3.n:Int) < (l2.n:Int) then (r3.n:Int) else (l2.n:Int)) 0):=by kernel_rfl
theorem f9_ok:FnOk Tryz.prog 9 Tryz.f9:=⟨mixed,Tryz.func9,rfl⟩
def f10_kp:KP:=⟨[(8,[0,1,2,3])],[]⟩
noncomputable def f10_b (l:List Nat):Code:=cAtN l (bodyOf Tryz.f10)
def f10_r (Q:Value -> WP):Env -> WP:=retK Tryz.prog Tryz.f10 Q
def f10_j1_c (jn:Jn) (Q:Value -> WP):Env -> WP:=codeI Tryz.prog f10_kp jn (f10_b [1,1]) (f10_r Q) noX (f10_r Q)
def f10_j1 (jn:Jn) (Q:Value -> WP) (room0 reads1 writes2 kind3:Int):WP:=jn 8 (f10_j1_c jn Q ) ((.int .i64 room0)::(.int .i64 reads1)::(.int .i64 writes2)::(.int .i64 kind3)::us 39 [])
theorem f10_j1_raw {jn:Jn} {Q:Value -> WP} {room0 reads1 writes2 kind3:Int}:f10_j1_c jn Q  ((.int .i64 room0)::(.int .i64 reads1)::(.int .i64 writes2)::(.int .i64 kind3)::us 39 []) = (
 call2 .ptr (.int .i64) Tryz.prog 26 [.int .i64 reads1,.int .i64 writes2] fun (x_1:Option Addr) (x_2:Int)=>
 ite2 (x_2 != 0) (
 Q (.tuple #[.pointer none,.int .i64 x_2])) (
 call2 .ptr (.int .i64) Tryz.prog 27 [.int .i64 kind3,.int .i64 room0] fun (x_3:Option Addr) (x_4:Int)=>
 ite2 (x_4 != 0) (
 Q (.tuple #[.pointer none,.int .i64 x_4])) (
 newB [.slice none 0 0] 80 fun b_5=>
 newB [.pointer (some ⟨b_5,0,none⟩),.pointer x_1,.pointer x_3,.int .i64 0,.int .i64 0,.int .i64 0,.int .i64 0,.int .i64 0,.int .i64 0,.slice none 0 0] 85 fun b_6=>
 Q (.tuple #[.pointer (some ⟨b_6,0,none⟩),.int .i64 0])))):=by kernel_rfl
theorem f10_raw {jn:Jn} {room0 reads1 writes2 kind3:Int} {Q:Value -> WP}:funJ jn Tryz.prog f10_kp Tryz.f10 [.int .i64 room0,.int .i64 reads1,.int .i64 writes2,.int .i64 kind3] Q = (
 ite2 (decide (room0 < 1)) (
 Q (.tuple #[.pointer none,.int .i64 1])) (
 ite2 (decide (room0 > 1024)) (
 Q (.tuple #[.pointer none,.int .i64 1])) (
 f10_j1 jn Q  room0 reads1 writes2 kind3))):=by kernel_rfl
theorem f10_ok:FnOk Tryz.prog 10 Tryz.f10:=⟨mixed,Tryz.func10,rfl⟩
def f11_kp:KP:=⟨[(6,[0,1,2,8]),(12,[0,1,2])],[]⟩
noncomputable def f11_b (l:List Nat):Code:=cAtN l (bodyOf Tryz.f11)
def f11_r (Q:Value -> WP):Env -> WP:=retK Tryz.prog Tryz.f11 Q
def f11_e1 (jn:Jn) (Q:Value -> WP):Env -> WP:=seqK Tryz.prog f11_kp jn (f11_b [1,1]) (f11_r Q) noX (f11_r Q)
def f11_j2_c (jn:Jn) (Q:Value -> WP):Env -> WP:=codeI Tryz.prog f11_kp jn (f11_b [1,1]) (f11_r Q) noX (f11_r Q)
def f11_j2 (jn:Jn) (Q:Value -> WP) (kind0 hold1:Int) (t2:Option Addr):WP:=jn 12 (f11_j2_c jn Q ) ((.int .i64 kind0)::(.int .i64 hold1)::(.pointer t2)::us 26 [])
def f11_j1_c (jn:Jn) (Q:Value -> WP):Env -> WP:=codeI Tryz.prog f11_kp jn (f11_b [1,0,0,1]) (f11_e1 jn Q) (blkX 0 (f11_e1 jn Q) noX) (f11_r Q)
def f11_j1 (jn:Jn) (Q:Value -> WP) (kind0 hold1:Int) (t2:Option Addr) (t8:Bool):WP:=jn 6 (f11_j1_c jn Q ) ((.int .i64 kind0)::(.int .i64 hold1)::(.pointer t2)::us 5 ((.bool t8)::us 20 []))
theorem f11_j2_raw {jn:Jn} {Q:Value -> WP} {kind0 hold1:Int} {t2:Option Addr}:f11_j2_c jn Q  ((.int .i64 kind0)::(.int .i64 hold1)::(.pointer t2)::us 26 []) = (
 fun w=>Calls Tryz.prog 28 #[] w fun e w'=>∃ x_1:Int,∃ x_2:Int,∃ x_3:Int,∃ x_4:Int,∃ x_5:Int,e = .returned (.agg #[.int .u64 x_1,.int .u64 x_2,.int .u64 x_3,.int .u64 x_4,.int .u64 x_5]) /\ (
 newB [.int .i64 kind0,.int .u64 x_1,.int .u64 x_2,.int .u64 x_3,.int .u64 x_4,.int .u64 x_5,.int .i64 kind0,.int .i64 0,.int .i64 hold1,.pointer t2] 91 fun b_6=>
 Q (.tuple #[.pointer (some ⟨b_6,0,none⟩),.int .i64 0])) w'):=by kernel_rfl
theorem f11_j1_raw {jn:Jn} {Q:Value -> WP} {kind0 hold1:Int} {t2:Option Addr} {t8:Bool}:f11_j1_c jn Q  ((.int .i64 kind0)::(.int .i64 hold1)::(.pointer t2)::us 5 ((.bool t8)::us 20 [])) = (
 ite2 t8 (
 Q (.tuple #[.pointer none,.int .i64 4])) (
 ite2 (decide (hold1 < 1)) (
 Q (.tuple #[.pointer none,.int .i64 1])) (
 ite2 (decide (hold1 > 256)) (
 Q (.tuple #[.pointer none,.int .i64 1])) (
 f11_j2 jn Q  kind0 hold1 t2)))):=by kernel_rfl
theorem f11_raw {jn:Jn} {kind0 hold1:Int} {t2:Option Addr} {Q:Value -> WP}:funJ jn Tryz.prog f11_kp Tryz.f11 [.int .i64 kind0,.int .i64 hold1,.pointer t2] Q = (
 ite2 (decide (kind0 < 0)) (
 f11_j1 jn Q  kind0 hold1 t2 true) (
 f11_j1 jn Q  kind0 hold1 t2 (decide (kind0 >= 5)))):=by kernel_rfl
theorem f11_ok:FnOk Tryz.prog 11 Tryz.f11:=⟨mixed,Tryz.func11,rfl⟩
def f12_kp:KP:=⟨[],[]⟩
theorem f12_raw {jn:Jn} {rate0 room1:Int} {Q:Value -> WP}:funJ jn Tryz.prog f12_kp Tryz.f12 [.int .i64 rate0,.int .i64 room1] Q = (
 call1 .ptr Tryz.prog 29 [.int .i64 rate0] fun (x_1:Option Addr)=>
 newB [.pointer x_1,.int .i64 0,.slice none 0 0] 96 fun b_2=>
 call0 Tryz.prog 30 [.pointer (some ⟨b_2,0,none⟩),.int .i64 room1] <|
 Q (.pointer (some ⟨b_2,0,none⟩))):=by kernel_rfl
theorem f12_ok:FnOk Tryz.prog 12 Tryz.f12:=⟨mixed,Tryz.func12,rfl⟩
def f13_kp:KP:=⟨[],[]⟩
theorem f13_raw {jn:Jn} {shards0 room1:Int} {Q:Value -> WP}:funJ jn Tryz.prog f13_kp Tryz.f13 [.int .i64 shards0,.int .i64 room1] Q = (
 call1 .ptr Tryz.prog 31 [] fun (x_1:Option Addr)=>
 newB [.pointer x_1,.int .i64 shards0,.int .i64 room1,.int .i64 0] 100 fun b_2=>
 Q (.pointer (some ⟨b_2,0,none⟩))):=by kernel_rfl
theorem f13_ok:FnOk Tryz.prog 13 Tryz.f13:=⟨mixed,Tryz.func13,rfl⟩
def f14_kp:KP:=⟨[(14,[0,4,5,34]),(16,[0,4,5]),(18,[0,4,5,7])],[(6,[0,1,2,3,4,5,6,7,8,10,11,12,13,14])]⟩
noncomputable def f14_b (l:List Nat):Code:=cAtN l (bodyOf Tryz.f14)
def f14_r (Q:Value -> WP):Env -> WP:=retK Tryz.prog Tryz.f14 Q
def f14_e7 (jn:Jn) (Q:Value -> WP):Env -> WP:=seqK Tryz.prog f14_kp jn (f14_b [1,1,1,1]) (f14_r Q) noX (f14_r Q)
def f14_j3_c (jn:Jn) (Q:Value -> WP):Env -> WP:=codeI Tryz.prog f14_kp jn (f14_b [1,1,1,1,1]) (f14_r Q) noX (f14_r Q)
def f14_j3 (jn:Jn) (Q:Value -> WP) (j0:Option Addr) (o4_b o4_o r5_b r5_o:Nat) (ok7:Bool):WP:=jn 18 (f14_j3_c jn Q ) ((.pointer j0)::us 3 ((.pointer (some ⟨o4_b,o4_o,none⟩))::(.pointer (some ⟨r5_b,r5_o,none⟩))::us 1 ((.bool ok7)::us 64 [])))
def f14_j2_c (jn:Jn) (Q:Value -> WP):Env -> WP:=codeI Tryz.prog f14_kp jn (f14_b [1,1,1,1]) (f14_r Q) noX (f14_r Q)
def f14_j2 (jn:Jn) (Q:Value -> WP) (j0:Option Addr) (o4_b o4_o r5_b r5_o:Nat):WP:=jn 16 (f14_j2_c jn Q ) ((.pointer j0)::us 3 ((.pointer (some ⟨o4_b,o4_o,none⟩))::(.pointer (some ⟨r5_b,r5_o,none⟩))::us 66 []))
def f14_j1_c (jn:Jn) (Q:Value -> WP):Env -> WP:=codeI Tryz.prog f14_kp jn (f14_b [1,1,1,0,1]) (f14_e7 jn Q) noX (f14_r Q)
def f14_j1 (jn:Jn) (Q:Value -> WP) (j0:Option Addr) (o4_b o4_o r5_b r5_o:Nat) (t34:Bool):WP:=jn 14 (f14_j1_c jn Q ) ((.pointer j0)::us 3 ((.pointer (some ⟨o4_b,o4_o,none⟩))::(.pointer (some ⟨r5_b,r5_o,none⟩))::us 28 ((.bool t34)::us 37 [])))
theorem f14_j3_raw {jn:Jn} {Q:Value -> WP} {j0:Option Addr} {o4_b o4_o r5_b r5_o:Nat} {ok7:Bool}:f14_j3_c jn Q  ((.pointer j0)::us 3 ((.pointer (some ⟨o4_b,o4_o,none⟩))::(.pointer (some ⟨r5_b,r5_o,none⟩))::us 1 ((.bool ok7)::us 64 []))) = (
 ld (.int .i64) o4_b o4_o fun (x_30:Int)=>
 ld .str o4_b (o4_o + 1) fun (x_31:ByteArray)=>
 ld .str o4_b ((o4_o + 1) + 1) fun (x_32:ByteArray)=>
 ld (.int .i64) o4_b (((o4_o + 1) + 1) + 1) fun (x_33:Int)=>
 ld .slc r5_b (r5_o + 3) fun (x_34:Sl)=>
 call0 Tryz.prog 34 [.pointer j0,.agg #[.int .i64 x_30,.string x_31,.string x_32,.int .i64 x_33],.slice x_34.a x_34.n x_34.c] <|
 ite2 ok7 (
 call1 .bool Tryz.prog 35 [.pointer j0] fun (x_35:Bool)=>
 Q (.bool x_35)) (
 Q (.bool false))):=by kernel_rfl
theorem f14_j2_raw {jn:Jn} {Q:Value -> WP} {j0:Option Addr} {o4_b o4_o r5_b r5_o:Nat}:f14_j2_c jn Q  ((.pointer j0)::us 3 ((.pointer (some ⟨o4_b,o4_o,none⟩))::(.pointer (some ⟨r5_b,r5_o,none⟩))::us 66 [])) = (
 ld (.int .i64) o4_b o4_o fun (x_18:Int)=>
 ld .str o4_b (o4_o + 1) fun (x_19:ByteArray)=>
 ld .str o4_b ((o4_o + 1) + 1) fun (x_20:ByteArray)=>
 ld (.int .i64) o4_b (((o4_o + 1) + 1) + 1) fun (x_21:Int)=>
 ld (.int .i64) r5_b r5_o fun (x_22:Int)=>
 ld .bool r5_b (r5_o + 1) fun (x_23:Bool)=>
 ld .str r5_b ((r5_o + 1) + 1) fun (x_24:ByteArray)=>
 ld .slc r5_b (((r5_o + 1) + 1) + 1) fun (x_25:Sl)=>
 call1 .bool Tryz.prog 32 [.pointer j0,.agg #[.int .i64 x_18,.string x_19,.string x_20,.int .i64 x_21],.agg #[.int .i64 x_22,.bool x_23,.string x_24,.slice x_25.a x_25.n x_25.c]] fun (x_26:Bool)=>
 ite2 x_26 (
 ld (.int .i64) o4_b o4_o fun (x_27:Int)=>
 ld .slc r5_b (r5_o + 3) fun (x_28:Sl)=>
 call1 .bool Tryz.prog 33 [.pointer j0,.int .i64 x_27,.slice x_28.a x_28.n x_28.c] fun (x_29:Bool)=>
 f14_j3 jn Q  j0 o4_b o4_o r5_b r5_o x_29) (
 f14_j3 jn Q  j0 o4_b o4_o r5_b r5_o false)):=by kernel_rfl
theorem f14_j1_raw {jn:Jn} {Q:Value -> WP} {j0:Option Addr} {o4_b o4_o r5_b r5_o:Nat} {t34:Bool}:f14_j1_c jn Q  ((.pointer j0)::us 3 ((.pointer (some ⟨o4_b,o4_o,none⟩))::(.pointer (some ⟨r5_b,r5_o,none⟩))::us 28 ((.bool t34)::us 37 []))) = (
 ite2 t34 (
 drawW fun S=>
 nilck j0 fun b_9 o_10=>
 ldS S (.int .i64) b_9 (o_10 + 3) fun (x_11:Int)=>
 ldS S (.int .i64) o4_b (o4_o + 3) fun (x_12:Int)=>
 nilck j0 fun b_13 o_14=>
 ld (.int .i64) b_13 (o_14 + 3) fun (x_15:Int)=>
 keepS true S <|
 nilck j0 fun b_16 o_17=>
 st b_16 (o_17 + 3) (.int .i64 (IntKind.wrap .i64 (x_11 + (if (IntKind.wrap .i64 (1125899906842624 - x_15)) < x_12 then (IntKind.wrap .i64 (1125899906842624 - x_15)) else x_12)))) <|
 f14_j2 jn Q  j0 o4_b o4_o r5_b r5_o) (
 f14_j2 jn Q  j0 o4_b o4_o r5_b r5_o)):=by kernel_rfl
theorem f14_raw {jn:Jn} {j0:Option Addr} {o1_0:Int} {o1_1 o1_2:ByteArray} {o1_3 r2_0:Int} {r2_1:Bool} {r2_2:ByteArray} {r2_3:Sl} {Q:Value -> WP}:funJ jn Tryz.prog f14_kp Tryz.f14 [.pointer j0,.agg #[.int .i64 o1_0,.string o1_1,.string o1_2,.int .i64 o1_3],.agg #[.int .i64 r2_0,.bool r2_1,.string r2_2,.slice r2_3.a r2_3.n r2_3.c]] Q = (
 newB [.int .i64 o1_0,.string o1_1,.string o1_2,.int .i64 o1_3] 39 fun b_1=>
 newB [.int .i64 r2_0,.bool r2_1,.string r2_2,.slice r2_3.a r2_3.n r2_3.c] 36 fun b_2=>
 ite2 (Option.isNone j0) (
 Q (.bool false)) (
 ld (.int .i64) b_2 0 fun (x_3:Int)=>
 ite2 (x_3 != 0) (
 ld .bool b_2 1 fun (x_4:Bool)=>
 ite2 (!x_4) (
 ld .str b_2 2 fun (x_5:ByteArray)=>
 ite2 (sEq x_5 str_empty) (
 ld .slc b_2 3 fun (x_6:Sl)=>
 Q (.bool ((x_6.n:Int) == 0))) (
 Q (.bool false))) (
 Q (.bool false))) (
 ld (.int .i64) b_1 0 fun (x_7:Int)=>
 ite2 (x_7 == 4) (
 ld (.int .i64) b_1 3 fun (x_8:Int)=>
 f14_j1 jn Q  j0 b_1 0 b_2 0 (decide (x_8 > 0))) (
 f14_j1 jn Q  j0 b_1 0 b_2 0 false)))):=by kernel_rfl
theorem f14_ok:FnOk Tryz.prog 14 Tryz.f14:=⟨mixed,Tryz.func14,rfl⟩
def f15_kp:KP:=⟨[],[(1,[0,1,2,3,4,5,6,7,9,11,13])]⟩
theorem f15_raw {jn:Jn} {c0:Option Addr} {key1:ByteArray} {Q:Value -> WP}:funJ jn Tryz.prog f15_kp Tryz.f15 [.pointer c0,.string key1] Q = (
 drawW fun S=>
 nilck c0 fun b_1 o_2=>
 ldS S .slc b_1 o_2 fun (x_3:Sl)=>
 nilck c0 fun b_4 o_5=>
 ld .slc b_4 o_5 fun (x_6:Sl)=>
 keepS true S <|
 call1 (.int .i64) Tryz.prog 36 [.string key1,.int .i64 (x_6.n:Int)] fun (x_7:Int)=>
 keepS true S <|
 idx x_3.a x_3.n x_7 fun b_8 o_9=>
 ld .ptr b_8 (o_9 + (x_7).toNat * 1) fun (x_10:Option Addr)=>
 Q (.pointer x_10)):=by kernel_rfl
theorem f15_ok:FnOk Tryz.prog 15 Tryz.f15:=⟨mixed,Tryz.func15,rfl⟩
def f16_kp:KP:=⟨[],[]⟩
theorem f16_raw {jn:Jn} {s0:Option Addr} {key1:ByteArray} {now2:Int} {Q:Value -> WP}:funJ jn Tryz.prog f16_kp Tryz.f16 [.pointer s0,.string key1,.int .i64 now2] Q = (
 call1 (.int .i64) Tryz.prog 37 [.string key1,.int .i64 now2] fun (x_1:Int)=>
 ite2 (x_1 != 0) (
 Q (.tuple #[.string str_empty,.bool false,.slice none 0 0,.int .i64 x_1])) (
 call1 .slc Tryz.prog 38 [.pointer s0,.string key1,.int .i64 now2] fun (x_2:Sl)=>
 nilck s0 fun b_3 o_4=>
 ld .ptr b_3 o_4 fun (x_5:Option Addr)=>
 call2 .str .bool Tryz.prog 39 [.pointer x_5,.string key1,.int .i64 now2] fun (x_6:ByteArray) (x_7:Bool)=>
 nilck s0 fun b_8 o_9=>
 ld (.int .i64) b_8 (o_9 + 3) fun (x_10:Int)=>
 call1 (.int .i64) Tryz.prog 40 [.int .i64 x_10] fun (x_11:Int)=>
 nilck s0 fun b_12 o_13=>
 st b_12 (o_13 + 3) (.int .i64 x_11) <|
 ite2 x_7 (
 nilck s0 fun b_14 o_15=>
 ld (.int .i64) b_14 ((o_15 + 3) + 1) fun (x_16:Int)=>
 call1 (.int .i64) Tryz.prog 40 [.int .i64 x_16] fun (x_17:Int)=>
 nilck s0 fun b_18 o_19=>
 st b_18 ((o_19 + 3) + 1) (.int .i64 x_17) <|
 nilck s0 fun b_20 o_21=>
 ld .ptr b_20 (o_21 + 1) fun (x_22:Option Addr)=>
 call1 .bool Tryz.prog 41 [.pointer x_22,.string key1] fun (x_23:Bool)=>
 ite2 (!x_23) (
 nilck s0 fun b_24 o_25=>
 ld (.int .i64) b_24 ((o_25 + 3) + 4) fun (x_26:Int)=>
 call1 (.int .i64) Tryz.prog 40 [.int .i64 x_26] fun (x_27:Int)=>
 nilck s0 fun b_28 o_29=>
 st b_28 ((o_29 + 3) + 4) (.int .i64 x_27) <|
 Q (.tuple #[.string x_6,.bool x_7,.slice x_2.a x_2.n x_2.c,.int .i64 0])) (
 Q (.tuple #[.string x_6,.bool x_7,.slice x_2.a x_2.n x_2.c,.int .i64 0]))) (
 Q (.tuple #[.string x_6,.bool x_7,.slice x_2.a x_2.n x_2.c,.int .i64 0])))):=by kernel_rfl
theorem f16_ok:FnOk Tryz.prog 16 Tryz.f16:=⟨mixed,Tryz.func16,rfl⟩
def f17_kp:KP:=⟨[],[(3,[0,1,2,3,4])]⟩
theorem f17_raw {jn:Jn} {c0:Option Addr} {o1_0:Int} {o1_1 o1_2:ByteArray} {o1_3 r2_0:Int} {r2_1:Bool} {r2_2:ByteArray} {r2_3:Sl} {e3:Int} {Q:Value -> WP}:funJ jn Tryz.prog f17_kp Tryz.f17 [.pointer c0,.agg #[.int .i64 o1_0,.string o1_1,.string o1_2,.int .i64 o1_3],.agg #[.int .i64 r2_0,.bool r2_1,.string r2_2,.slice r2_3.a r2_3.n r2_3.c],.int .i64 e3] Q = (
 newB [.int .i64 o1_0,.string o1_1,.string o1_2,.int .i64 o1_3] 39 fun b_1=>
 newB [.int .i64 r2_0,.bool r2_1,.string r2_2,.slice r2_3.a r2_3.n r2_3.c] 36 fun b_2=>
 newB [.int .i64 0,.bool false,.string str_empty,.slice none 0 0] 36 fun b_3=>
 ite2 (e3 != 0) (
 st b_3 0 (.int .i64 e3) <|
 st b_3 1 (.bool false) <|
 st b_3 2 (.string str_empty) <|
 st b_3 3 (.slice none 0 0) <|
 ld (.int .i64) b_3 0 fun (x_4:Int)=>
 ld .bool b_3 1 fun (x_5:Bool)=>
 ld .str b_3 2 fun (x_6:ByteArray)=>
 ld .slc b_3 3 fun (x_7:Sl)=>
 Q (.agg #[.int .i64 x_4,.bool x_5,.string x_6,.slice x_7.a x_7.n x_7.c])) (
 drawW fun S=>
 nilck c0 fun b_8 o_9=>
 ldS S .ptr b_8 (o_9 + 1) fun (x_10:Option Addr)=>
 ld .str b_1 1 fun (x_11:ByteArray)=>
 keepS true S <|
 call1 .bool Tryz.prog 42 [.pointer x_10,.string x_11] fun (x_12:Bool)=>
 ld (.int .i64) b_2 0 fun (x_13:Int)=>
 ld .bool b_2 1 fun (x_14:Bool)=>
 ld .str b_2 2 fun (x_15:ByteArray)=>
 ld .slc b_2 3 fun (x_16:Sl)=>
 st b_3 0 (.int .i64 x_13) <|
 st b_3 1 (.bool x_14) <|
 st b_3 2 (.string x_15) <|
 st b_3 3 (.slice x_16.a x_16.n x_16.c) <|
 ld (.int .i64) b_3 0 fun (x_17:Int)=>
 ld .bool b_3 1 fun (x_18:Bool)=>
 ld .str b_3 2 fun (x_19:ByteArray)=>
 ld .slc b_3 3 fun (x_20:Sl)=>
 Q (.agg #[.int .i64 x_17,.bool x_18,.string x_19,.slice x_20.a x_20.n x_20.c]))):=by kernel_rfl
theorem f17_ok:FnOk Tryz.prog 17 Tryz.f17:=⟨mixed,Tryz.func17,rfl⟩
def f18_kp:KP:=⟨[(18,[0,1,2,3,4,15,69]),(24,[0,1,2,3,4,15])],[(7,[0,1,2,4,6,7,8,9,10,11,12,13,14,15,16,17,19,20,23,24])]⟩
noncomputable def f18_b (l:List Nat):Code:=cAtN l (bodyOf Tryz.f18)
def f18_r (Q:Value -> WP):Env -> WP:=retK Tryz.prog Tryz.f18 Q
def f18_e8 (jn:Jn) (Q:Value -> WP):Env -> WP:=seqK Tryz.prog f18_kp jn (f18_b [1,1,1,1,1,1,1]) (f18_r Q) noX (f18_r Q)
def f18_j2_c (jn:Jn) (Q:Value -> WP):Env -> WP:=codeI Tryz.prog f18_kp jn (f18_b [1,1,1,1,1,1,1]) (f18_r Q) noX (f18_r Q)
def f18_j2 (jn:Jn) (Q:Value -> WP) (s0:Option Addr) (key1 val2:ByteArray) (now3 life4:Int) (l15:Sl):WP:=jn 24 (f18_j2_c jn Q ) ((.pointer s0)::(.string key1)::(.string val2)::(.int .i64 now3)::(.int .i64 life4)::us 10 ((.slice l15.a l15.n l15.c)::us 101 []))
def f18_j1_c (jn:Jn) (Q:Value -> WP):Env -> WP:=codeI Tryz.prog f18_kp jn (f18_b [1,1,1,1,1,1,0,1]) (f18_e8 jn Q) noX (f18_r Q)
def f18_j1 (jn:Jn) (Q:Value -> WP) (s0:Option Addr) (key1 val2:ByteArray) (now3 life4:Int) (l15:Sl) (t69:Bool):WP:=jn 18 (f18_j1_c jn Q ) ((.pointer s0)::(.string key1)::(.string val2)::(.int .i64 now3)::(.int .i64 life4)::us 10 ((.slice l15.a l15.n l15.c)::us 53 ((.bool t69)::us 47 [])))
theorem f18_j2_raw {jn:Jn} {Q:Value -> WP} {s0:Option Addr} {key1 val2:ByteArray} {now3 life4:Int} {l15:Sl}:f18_j2_c jn Q  ((.pointer s0)::(.string key1)::(.string val2)::(.int .i64 now3)::(.int .i64 life4)::us 10 ((.slice l15.a l15.n l15.c)::us 101 [])) = (
 call1 (.int .i64) Tryz.prog 47 [.pointer s0] fun (x_20:Int)=>
 nilck s0 fun b_21 o_22=>
 ld .ptr b_21 (o_22 + 2) fun (x_23:Option Addr)=>
 call1 .slc Tryz.prog 48 [.pointer x_23,.string key1] fun (x_24:Sl)=>
 nilck s0 fun b_25 o_26=>
 ld .slc b_25 (o_26 + 9) fun (x_27:Sl)=>
 newB [.int .i64 2,.string key1] 117 fun b_28=>
 appendC 117 2 24 [.int .i64 0,.string str_empty] ⟨x_27.a,x_27.n,x_27.c⟩ 1 (fun w=>rdA w (some ⟨b_28,0,none⟩) (1 * 2)) fun s_29=>
 nilck s0 fun b_30 o_31=>
 st b_30 (o_31 + 9) (.slice s_29.a s_29.n s_29.c) <|
 call0 Tryz.prog 49 [.pointer s0,.slice x_24.a x_24.n x_24.c] <|
 nilck s0 fun b_32 o_33=>
 ld .ptr b_32 o_33 fun (x_34:Option Addr)=>
 call2 .bool (.int .i64) Tryz.prog 43 [.pointer x_34,.string key1,.string val2,.int .i64 now3,.int .i64 life4] fun (x_35:Bool) (x_36:Int)=>
 appendC 9 1 16 [.string str_empty] ⟨l15.a,l15.n,l15.c⟩ x_24.n (fun w=>rdA w x_24.a (x_24.n * 1)) fun s_37=>
 Q (.tuple #[.slice s_37.a s_37.n s_37.c,.int .i64 0])):=by kernel_rfl
theorem f18_j1_raw {jn:Jn} {Q:Value -> WP} {s0:Option Addr} {key1 val2:ByteArray} {now3 life4:Int} {l15:Sl} {t69:Bool}:f18_j1_c jn Q  ((.pointer s0)::(.string key1)::(.string val2)::(.int .i64 now3)::(.int .i64 life4)::us 10 ((.slice l15.a l15.n l15.c)::us 53 ((.bool t69)::us 47 []))) = (
 ite2 t69 (
 nilck s0 fun b_15 o_16=>
 ld .ptr b_15 o_16 fun (x_17:Option Addr)=>
 call2 .bool (.int .i64) Tryz.prog 43 [.pointer x_17,.string key1,.string val2,.int .i64 now3,.int .i64 life4] fun (x_18:Bool) (x_19:Int)=>
 call0 Tryz.prog 46 [.pointer s0,.int .i64 2,.string key1] <|
 Q (.tuple #[.slice l15.a l15.n l15.c,.int .i64 0])) (
 f18_j2 jn Q  s0 key1 val2 now3 life4 l15)):=by kernel_rfl
theorem f18_raw {jn:Jn} {s0:Option Addr} {key1 val2:ByteArray} {now3 life4:Int} {Q:Value -> WP}:funJ jn Tryz.prog f18_kp Tryz.f18 [.pointer s0,.string key1,.string val2,.int .i64 now3,.int .i64 life4] Q = (
 newB [.slice none 0 0] 80 fun b_1=>
 call2 .bool (.int .i64) Tryz.prog 43 [.pointer (some ⟨b_1,0,none⟩),.string key1,.string val2,.int .i64 now3,.int .i64 life4] fun (x_2:Bool) (x_3:Int)=>
 ite2 (x_3 != 0) (
 Q (.tuple #[.slice none 0 0,.int .i64 x_3])) (
 call1 .slc Tryz.prog 38 [.pointer s0,.string key1,.int .i64 now3] fun (x_4:Sl)=>
 nilck s0 fun b_5 o_6=>
 ld (.int .i64) b_5 ((o_6 + 3) + 2) fun (x_7:Int)=>
 call1 (.int .i64) Tryz.prog 40 [.int .i64 x_7] fun (x_8:Int)=>
 nilck s0 fun b_9 o_10=>
 st b_9 ((o_10 + 3) + 2) (.int .i64 x_8) <|
 drawW fun S=>
 nilck s0 fun b_11 o_12=>
 ld .ptr b_11 o_12 fun (x_13:Option Addr)=>
 keepS true S <|
 call1 .bool Tryz.prog 44 [.pointer x_13,.string key1] fun (x_14:Bool)=>
 keepS true S <|
 ite2 x_14 (
 keepS true S <|
 keepS true S <|
 keepS true S <|
 f18_j1 jn Q  s0 key1 val2 now3 life4 x_4 true) (
 nilck s0 fun b_38 o_39=>
 ldS S .ptr b_38 o_39 fun (x_40:Option Addr)=>
 nilck x_40 fun b_41 o_42=>
 ldS S .slc b_41 o_42 fun (x_43:Sl)=>
 nilck s0 fun b_44 o_45=>
 ld .ptr b_44 (o_45 + 2) fun (x_46:Option Addr)=>
 keepS true S <|
 nilck x_46 fun b_47 o_48=>
 ld .ptr b_47 o_48 fun (x_49:Option Addr)=>
 keepS true S <|
 call1 (.int .i64) Tryz.prog 45 [.pointer x_49] fun (x_50:Int)=>
 keepS true S <|
 f18_j1 jn Q  s0 key1 val2 now3 life4 x_4 (decide ((x_43.n:Int) < x_50))))):=by kernel_rfl
theorem f18_ok:FnOk Tryz.prog 18 Tryz.f18:=⟨mixed,Tryz.func18,rfl⟩
def f19_kp:KP:=⟨[],[]⟩
theorem f19_raw {jn:Jn} {s0:Option Addr} {key1:ByteArray} {now2:Int} {Q:Value -> WP}:funJ jn Tryz.prog f19_kp Tryz.f19 [.pointer s0,.string key1,.int .i64 now2] Q = (
 call1 (.int .i64) Tryz.prog 37 [.string key1,.int .i64 now2] fun (x_1:Int)=>
 ite2 (x_1 != 0) (
 Q (.tuple #[.bool false,.slice none 0 0,.int .i64 x_1])) (
 call1 .slc Tryz.prog 38 [.pointer s0,.string key1,.int .i64 now2] fun (x_2:Sl)=>
 nilck s0 fun b_3 o_4=>
 ld .ptr b_3 o_4 fun (x_5:Option Addr)=>
 call1 .bool Tryz.prog 50 [.pointer x_5,.string key1] fun (x_6:Bool)=>
 ite2 x_6 (
 call0 Tryz.prog 46 [.pointer s0,.int .i64 3,.string key1] <|
 Q (.tuple #[.bool x_6,.slice x_2.a x_2.n x_2.c,.int .i64 0])) (
 Q (.tuple #[.bool x_6,.slice x_2.a x_2.n x_2.c,.int .i64 0])))):=by kernel_rfl
theorem f19_ok:FnOk Tryz.prog 19 Tryz.f19:=⟨mixed,Tryz.func19,rfl⟩
def f20_kp:KP:=⟨[(6,[0,1,4,17]),(8,[0,1,4]),(15,[0,4,5,6]),(20,[4,5])],[(8,[0,1,2,3,4,5,6,7,8,9,10,11,15])]⟩
noncomputable def f20_b (l:List Nat):Code:=cAtN l (bodyOf Tryz.f20)
def f20_r (Q:Value -> WP):Env -> WP:=retK Tryz.prog Tryz.f20 Q
def f20_e1 (jn:Jn) (Q:Value -> WP):Env -> WP:=seqK Tryz.prog f20_kp jn (f20_b [1,1]) (f20_r Q) noX (f20_r Q)
def f20_e6 (jn:Jn) (Q:Value -> WP):Env -> WP:=seqK Tryz.prog f20_kp jn (f20_b [1,1,1,1,1]) (f20_r Q) noX (f20_r Q)
def f20_j4_c (jn:Jn) (Q:Value -> WP):Env -> WP:=codeI Tryz.prog f20_kp jn (f20_b [1,1,1,1,1]) (f20_r Q) noX (f20_r Q)
def f20_j4 (jn:Jn) (Q:Value -> WP) (t4_b t4_o r5_b r5_o:Nat):WP:=jn 20 (f20_j4_c jn Q ) (us 4 ((.pointer (some ⟨t4_b,t4_o,none⟩))::(.pointer (some ⟨r5_b,r5_o,none⟩))::us 48 []))
def f20_l3 (jn:Jn) (Q:Value -> WP) (m3:Nat) (c0:Option Addr) (t4_b t4_o r5_b r5_o:Nat) (i6:Int):WP:=lop Tryz.prog f20_kp jn (f20_b [1,1,1,1,0,1,0,0]) (blkX 0 (f20_e6 jn Q) noX) (f20_r Q) m3 ((.pointer c0)::us 3 ((.pointer (some ⟨t4_b,t4_o,none⟩))::(.pointer (some ⟨r5_b,r5_o,none⟩))::(.int .i64 i6)::us 47 []))
def f20_j2_c (jn:Jn) (Q:Value -> WP):Env -> WP:=codeI Tryz.prog f20_kp jn (f20_b [1,1]) (f20_r Q) noX (f20_r Q)
def f20_j2 (jn:Jn) (Q:Value -> WP) (c0:Option Addr) (n1:Int) (t4_b t4_o:Nat):WP:=jn 8 (f20_j2_c jn Q ) ((.pointer c0)::(.int .i64 n1)::us 2 ((.pointer (some ⟨t4_b,t4_o,none⟩))::us 49 []))
def f20_j1_c (jn:Jn) (Q:Value -> WP):Env -> WP:=codeI Tryz.prog f20_kp jn (f20_b [1,0,1]) (f20_e1 jn Q) noX (f20_r Q)
def f20_j1 (jn:Jn) (Q:Value -> WP) (c0:Option Addr) (n1:Int) (t4_b t4_o:Nat) (t17:Bool):WP:=jn 6 (f20_j1_c jn Q ) ((.pointer c0)::(.int .i64 n1)::us 2 ((.pointer (some ⟨t4_b,t4_o,none⟩))::us 12 ((.bool t17)::us 36 [])))
theorem f20_j4_raw {jn:Jn} {Q:Value -> WP} {t4_b t4_o r5_b r5_o:Nat}:f20_j4_c jn Q  (us 4 ((.pointer (some ⟨t4_b,t4_o,none⟩))::(.pointer (some ⟨r5_b,r5_o,none⟩))::us 48 [])) = (
 ld (.int .i64) r5_b r5_o fun (x_27:Int)=>
 ld .bool r5_b (r5_o + 1) fun (x_28:Bool)=>
 ld .str r5_b ((r5_o + 1) + 1) fun (x_29:ByteArray)=>
 ld .slc r5_b (((r5_o + 1) + 1) + 1) fun (x_30:Sl)=>
 st t4_b t4_o (.int .i64 x_27) <|
 st t4_b (t4_o + 1) (.bool x_28) <|
 st t4_b ((t4_o + 1) + 1) (.string x_29) <|
 st t4_b (((t4_o + 1) + 1) + 1) (.slice x_30.a x_30.n x_30.c) <|
 ld (.int .i64) t4_b t4_o fun (x_31:Int)=>
 ld .bool t4_b (t4_o + 1) fun (x_32:Bool)=>
 ld .str t4_b ((t4_o + 1) + 1) fun (x_33:ByteArray)=>
 ld .slc t4_b (((t4_o + 1) + 1) + 1) fun (x_34:Sl)=>
 Q (.agg #[.int .i64 x_31,.bool x_32,.string x_33,.slice x_34.a x_34.n x_34.c])):=by kernel_rfl
theorem f20_l3_raw {jn:Jn} {Q:Value -> WP} {m3:Nat} {c0:Option Addr} {t4_b t4_o r5_b r5_o:Nat} {i6:Int}:f20_l3 jn Q  (m3 + 1) c0 t4_b t4_o r5_b r5_o i6 = (
 nilck c0 fun b_12 o_13=>
 ld .slc b_12 o_13 fun (x_14:Sl)=>
 ite2 (decide (i6 < (x_14.n:Int))) (
 drawW fun S=>
 ldS S .slc r5_b (r5_o + 3) fun (x_15:Sl)=>
 nilck c0 fun b_16 o_17=>
 ldS S .slc b_16 o_17 fun (x_18:Sl)=>
 idx x_18.a x_18.n i6 fun b_19 o_20=>
 ldS S .ptr b_19 (o_20 + (i6).toNat * 1) fun (x_21:Option Addr)=>
 nilck c0 fun b_22 o_23=>
 ld (.int .i64) b_22 (o_23 + 3) fun (x_24:Int)=>
 keepS true S <|
 call1 .slc Tryz.prog 51 [.pointer x_21,.int .i64 x_24] fun (x_25:Sl)=>
 keepS true S <|
 appendC 9 1 16 [.string str_empty] ⟨x_15.a,x_15.n,x_15.c⟩ x_25.n (fun w=>rdA w x_25.a (x_25.n * 1)) fun s_26=>
 st r5_b (r5_o + 3) (.slice s_26.a s_26.n s_26.c) <|
 f20_l3 jn Q  m3 c0 t4_b t4_o r5_b r5_o (IntKind.wrap .i64 (i6 + 1))) (
 f20_j4 jn Q  t4_b t4_o r5_b r5_o)):=by kernel_rfl
theorem f20_j2_raw {jn:Jn} {Q:Value -> WP} {c0:Option Addr} {n1:Int} {t4_b t4_o:Nat}:f20_j2_c jn Q  ((.pointer c0)::(.int .i64 n1)::us 2 ((.pointer (some ⟨t4_b,t4_o,none⟩))::us 49 [])) = (
 nilck c0 fun b_6 o_7=>
 ld (.int .i64) b_6 (o_7 + 3) fun (x_8:Int)=>
 nilck c0 fun b_9 o_10=>
 st b_9 (o_10 + 3) (.int .i64 (IntKind.wrap .i64 (x_8 + n1))) <|
 newB [.int .i64 0,.bool false,.string str_empty,.slice none 0 0] 36 fun b_11=>
 exM fun m=>f20_l3 jn Q  m c0 t4_b t4_o b_11 0 0):=by kernel_rfl
theorem f20_j1_raw {jn:Jn} {Q:Value -> WP} {c0:Option Addr} {n1:Int} {t4_b t4_o:Nat} {t17:Bool}:f20_j1_c jn Q  ((.pointer c0)::(.int .i64 n1)::us 2 ((.pointer (some ⟨t4_b,t4_o,none⟩))::us 12 ((.bool t17)::us 36 []))) = (
 ite2 t17 (
 st t4_b t4_o (.int .i64 1) <|
 st t4_b (t4_o + 1) (.bool false) <|
 st t4_b ((t4_o + 1) + 1) (.string str_empty) <|
 st t4_b (((t4_o + 1) + 1) + 1) (.slice none 0 0) <|
 ld (.int .i64) t4_b t4_o fun (x_2:Int)=>
 ld .bool t4_b (t4_o + 1) fun (x_3:Bool)=>
 ld .str t4_b ((t4_o + 1) + 1) fun (x_4:ByteArray)=>
 ld .slc t4_b (((t4_o + 1) + 1) + 1) fun (x_5:Sl)=>
 Q (.agg #[.int .i64 x_2,.bool x_3,.string x_4,.slice x_5.a x_5.n x_5.c])) (
 f20_j2 jn Q  c0 n1 t4_b t4_o)):=by kernel_rfl
theorem f20_raw {jn:Jn} {c0:Option Addr} {n1:Int} {Q:Value -> WP}:funJ jn Tryz.prog f20_kp Tryz.f20 [.pointer c0,.int .i64 n1] Q = (
 newB [.int .i64 0,.bool false,.string str_empty,.slice none 0 0] 36 fun b_1=>
 ite2 (decide (n1 < 0)) (
 f20_j1 jn Q  c0 n1 b_1 0 true) (
 nilck c0 fun b_35 o_36=>
 ld (.int .i64) b_35 (o_36 + 3) fun (x_37:Int)=>
 f20_j1 jn Q  c0 n1 b_1 0 (decide (n1 > (IntKind.wrap .i64 (1125899906842624 - x_37)))))):=by kernel_rfl
theorem f20_ok:FnOk Tryz.prog 20 Tryz.f20:=⟨mixed,Tryz.func20,rfl⟩
def f21_kp:KP:=⟨[(6,[0,3,4,19]),(8,[0,3,4])],[(1,[0,2,3,4,5,6,7,8,10,11,12]),(4,[0,1,2,3,4,6,9,10]),(5,[0,1,2,3,4,6,9,10,11,12,13])]⟩
noncomputable def f21_b (l:List Nat):Code:=cAtN l (bodyOf Tryz.f21)
def f21_r (Q:Value -> WP):Env -> WP:=retK Tryz.prog Tryz.f21 Q
def f21_e1 (jn:Jn) (Q:Value -> WP):Env -> WP:=seqK Tryz.prog f21_kp jn (f21_b [1,1]) (f21_r Q) noX (f21_r Q)
def f21_j2_c (jn:Jn) (Q:Value -> WP):Env -> WP:=codeI Tryz.prog f21_kp jn (f21_b [1,1]) (f21_r Q) noX (f21_r Q)
def f21_j2 (jn:Jn) (Q:Value -> WP) (c0:Option Addr) (o3_b o3_o t4_b t4_o:Nat):WP:=jn 8 (f21_j2_c jn Q ) ((.pointer c0)::us 2 ((.pointer (some ⟨o3_b,o3_o,none⟩))::(.pointer (some ⟨t4_b,t4_o,none⟩))::us 45 []))
def f21_j1_c (jn:Jn) (Q:Value -> WP):Env -> WP:=codeI Tryz.prog f21_kp jn (f21_b [1,0,1]) (f21_e1 jn Q) noX (f21_r Q)
def f21_j1 (jn:Jn) (Q:Value -> WP) (c0:Option Addr) (o3_b o3_o t4_b t4_o:Nat) (t19:Bool):WP:=jn 6 (f21_j1_c jn Q ) ((.pointer c0)::us 2 ((.pointer (some ⟨o3_b,o3_o,none⟩))::(.pointer (some ⟨t4_b,t4_o,none⟩))::us 14 ((.bool t19)::us 30 [])))
theorem f21_j2_raw {jn:Jn} {Q:Value -> WP} {c0:Option Addr} {o3_b o3_o t4_b t4_o:Nat}:f21_j2_c jn Q  ((.pointer c0)::us 2 ((.pointer (some ⟨o3_b,o3_o,none⟩))::(.pointer (some ⟨t4_b,t4_o,none⟩))::us 45 [])) = (
 ld (.int .i64) o3_b o3_o fun (x_8:Int)=>
 ite2 (x_8 == 5) (
 drawW fun S=>
 nilck c0 fun b_9 o_10=>
 ldS S .slc b_9 o_10 fun (x_11:Sl)=>
 ld (.int .i64) o3_b (o3_o + 3) fun (x_12:Int)=>
 keepS true S <|
 idx x_11.a x_11.n x_12 fun b_13 o_14=>
 ld .ptr b_13 (o_14 + (x_12).toNat * 1) fun (x_15:Option Addr)=>
 call1 (.int .i64) Tryz.prog 47 [.pointer x_15] fun (x_16:Int)=>
 st t4_b t4_o (.int .i64 0) <|
 st t4_b (t4_o + 1) (.bool (decide (x_16 > 0))) <|
 st t4_b ((t4_o + 1) + 1) (.string str_empty) <|
 st t4_b (((t4_o + 1) + 1) + 1) (.slice none 0 0) <|
 ld (.int .i64) t4_b t4_o fun (x_17:Int)=>
 ld .bool t4_b (t4_o + 1) fun (x_18:Bool)=>
 ld .str t4_b ((t4_o + 1) + 1) fun (x_19:ByteArray)=>
 ld .slc t4_b (((t4_o + 1) + 1) + 1) fun (x_20:Sl)=>
 Q (.agg #[.int .i64 x_17,.bool x_18,.string x_19,.slice x_20.a x_20.n x_20.c])) (
 drawW fun S=>
 nilck c0 fun b_21 o_22=>
 ldS S .slc b_21 o_22 fun (x_23:Sl)=>
 ld (.int .i64) o3_b (o3_o + 3) fun (x_24:Int)=>
 keepS true S <|
 idx x_23.a x_23.n x_24 fun b_25 o_26=>
 ld .ptr b_25 (o_26 + (x_24).toNat * 1) fun (x_27:Option Addr)=>
 call2 .str .bool Tryz.prog 52 [.pointer x_27] fun (x_28:ByteArray) (x_29:Bool)=>
 st t4_b t4_o (.int .i64 0) <|
 st t4_b (t4_o + 1) (.bool x_29) <|
 st t4_b ((t4_o + 1) + 1) (.string x_28) <|
 st t4_b (((t4_o + 1) + 1) + 1) (.slice none 0 0) <|
 ld (.int .i64) t4_b t4_o fun (x_30:Int)=>
 ld .bool t4_b (t4_o + 1) fun (x_31:Bool)=>
 ld .str t4_b ((t4_o + 1) + 1) fun (x_32:ByteArray)=>
 ld .slc t4_b (((t4_o + 1) + 1) + 1) fun (x_33:Sl)=>
 Q (.agg #[.int .i64 x_30,.bool x_31,.string x_32,.slice x_33.a x_33.n x_33.c]))):=by kernel_rfl
theorem f21_j1_raw {jn:Jn} {Q:Value -> WP} {c0:Option Addr} {o3_b o3_o t4_b t4_o:Nat} {t19:Bool}:f21_j1_c jn Q  ((.pointer c0)::us 2 ((.pointer (some ⟨o3_b,o3_o,none⟩))::(.pointer (some ⟨t4_b,t4_o,none⟩))::us 14 ((.bool t19)::us 30 []))) = (
 ite2 t19 (
 st t4_b t4_o (.int .i64 1) <|
 st t4_b (t4_o + 1) (.bool false) <|
 st t4_b ((t4_o + 1) + 1) (.string str_empty) <|
 st t4_b (((t4_o + 1) + 1) + 1) (.slice none 0 0) <|
 ld (.int .i64) t4_b t4_o fun (x_4:Int)=>
 ld .bool t4_b (t4_o + 1) fun (x_5:Bool)=>
 ld .str t4_b ((t4_o + 1) + 1) fun (x_6:ByteArray)=>
 ld .slc t4_b (((t4_o + 1) + 1) + 1) fun (x_7:Sl)=>
 Q (.agg #[.int .i64 x_4,.bool x_5,.string x_6,.slice x_7.a x_7.n x_7.c])) (
 f21_j2 jn Q  c0 o3_b o3_o t4_b t4_o)):=by kernel_rfl
theorem f21_raw {jn:Jn} {c0:Option Addr} {o1_0:Int} {o1_1 o1_2:ByteArray} {o1_3:Int} {Q:Value -> WP}:funJ jn Tryz.prog f21_kp Tryz.f21 [.pointer c0,.agg #[.int .i64 o1_0,.string o1_1,.string o1_2,.int .i64 o1_3]] Q = (
 newB [.int .i64 o1_0,.string o1_1,.string o1_2,.int .i64 o1_3] 39 fun b_1=>
 newB [.int .i64 0,.bool false,.string str_empty,.slice none 0 0] 36 fun b_2=>
 drawW fun S=>
 ld (.int .i64) b_1 3 fun (x_3:Int)=>
 keepS true S <|
 ite2 (decide (x_3 < 0)) (
 keepS true S <|
 f21_j1 jn Q  c0 b_1 0 b_2 0 true) (
 ldS S (.int .i64) b_1 3 fun (x_34:Int)=>
 nilck c0 fun b_35 o_36=>
 ld .slc b_35 o_36 fun (x_37:Sl)=>
 keepS true S <|
 f21_j1 jn Q  c0 b_1 0 b_2 0 (decide (x_34 >= (x_37.n:Int))))):=by kernel_rfl
theorem f21_ok:FnOk Tryz.prog 21 Tryz.f21:=⟨mixed,Tryz.func21,rfl⟩
def f22_kp:KP:=⟨[(12,[2,5,6])],[(2,[0,1,2,3,5,7,8,9,10,11])]⟩
noncomputable def f22_b (l:List Nat):Code:=cAtN l (bodyOf Tryz.f22)
def f22_r (Q:Value -> WP):Env -> WP:=retK Tryz.prog Tryz.f22 Q
def f22_j1_c (jn:Jn) (Q:Value -> WP):Env -> WP:=codeI Tryz.prog f22_kp jn (f22_b [1,1,1,1]) (f22_r Q) noX (f22_r Q)
def f22_j1 (jn:Jn) (Q:Value -> WP) (t2_b t2_o:Nat) (k5:Int) (ok6:Bool):WP:=jn 12 (f22_j1_c jn Q ) (us 2 ((.pointer (some ⟨t2_b,t2_o,none⟩))::us 2 ((.int .i64 k5)::(.bool ok6)::us 26 [])))
theorem f22_j1_raw {jn:Jn} {Q:Value -> WP} {t2_b t2_o:Nat} {k5:Int} {ok6:Bool}:f22_j1_c jn Q  (us 2 ((.pointer (some ⟨t2_b,t2_o,none⟩))::us 2 ((.int .i64 k5)::(.bool ok6)::us 26 []))) = (
 call1 .str Tryz.prog 55 [.int .i64 k5] fun (x_22:ByteArray)=>
 st t2_b t2_o (.int .i64 0) <|
 st t2_b (t2_o + 1) (.bool ok6) <|
 st t2_b ((t2_o + 1) + 1) (.string x_22) <|
 st t2_b (((t2_o + 1) + 1) + 1) (.slice none 0 0) <|
 ld (.int .i64) t2_b t2_o fun (x_23:Int)=>
 ld .bool t2_b (t2_o + 1) fun (x_24:Bool)=>
 ld .str t2_b ((t2_o + 1) + 1) fun (x_25:ByteArray)=>
 ld .slc t2_b (((t2_o + 1) + 1) + 1) fun (x_26:Sl)=>
 Q (.agg #[.int .i64 x_23,.bool x_24,.string x_25,.slice x_26.a x_26.n x_26.c])):=by kernel_rfl
theorem f22_raw {jn:Jn} {c0:Option Addr} {Q:Value -> WP}:funJ jn Tryz.prog f22_kp Tryz.f22 [.pointer c0] Q = (
 newB [.int .i64 0,.bool false,.string str_empty,.slice none 0 0] 36 fun b_1=>
 nilck c0 fun b_2 o_3=>
 ld .ptr b_2 (o_3 + 1) fun (x_4:Option Addr)=>
 fun w=>Calls Tryz.prog 53 #[.pointer x_4] w fun e w'=>∃ x_5:Int,∃ x_6:Int,∃ x_7:Int,∃ x_8:Int,∃ x_9:Int,∃ x_10:Int,e = .returned (.tuple #[.agg #[.int .i64 x_5,.int .i64 x_6,.int .i64 x_7,.int .i64 x_8,.int .i64 x_9],.int .i64 x_10]) /\ (
 newB [.int .i64 0,.int .i64 0,.int .i64 0,.int .i64 0,.int .i64 0] 121 fun b_11=>
 st b_11 0 (.int .i64 x_5) <|
 st b_11 1 (.int .i64 x_6) <|
 st b_11 2 (.int .i64 x_7) <|
 st b_11 3 (.int .i64 x_8) <|
 st b_11 4 (.int .i64 x_9) <|
 drawW fun S=>
 nilck c0 fun b_12 o_13=>
 ldS S .ptr b_12 (o_13 + 2) fun (x_14:Option Addr)=>
 ld (.int .i64) b_11 0 fun (x_15:Int)=>
 ld (.int .i64) b_11 1 fun (x_16:Int)=>
 ld (.int .i64) b_11 2 fun (x_17:Int)=>
 ld (.int .i64) b_11 3 fun (x_18:Int)=>
 ld (.int .i64) b_11 4 fun (x_19:Int)=>
 keepS true S <|
 call2 (.int .i64) .bool Tryz.prog 54 [.pointer x_14,.agg #[.int .i64 x_15,.int .i64 x_16,.int .i64 x_17,.int .i64 x_18,.int .i64 x_19],.int .i64 x_10] fun (x_20:Int) (x_21:Bool)=>
 ite2 x_21 (
 call0 Tryz.prog 24 [.pointer c0,.int .i64 x_20] <|
 f22_j1 jn Q  b_1 0 x_20 x_21) (
 f22_j1 jn Q  b_1 0 x_20 x_21)) w'):=by kernel_rfl
theorem f22_ok:FnOk Tryz.prog 22 Tryz.f22:=⟨mixed,Tryz.func22,rfl⟩
def f23_kp:KP:=⟨[(8,[0,1])],[]⟩
noncomputable def f23_b (l:List Nat):Code:=cAtN l (bodyOf Tryz.f23)
def f23_r (Q:Value -> WP):Env -> WP:=retK Tryz.prog Tryz.f23 Q
def f23_j1_c (jn:Jn) (Q:Value -> WP):Env -> WP:=codeI Tryz.prog f23_kp jn (f23_b [1,1]) (f23_r Q) noX (f23_r Q)
def f23_j1 (jn:Jn) (Q:Value -> WP) (c0:Option Addr) (kind1:Int):WP:=jn 8 (f23_j1_c jn Q ) ((.pointer c0)::(.int .i64 kind1)::us 20 [])
theorem f23_j1_raw {jn:Jn} {Q:Value -> WP} {c0:Option Addr} {kind1:Int}:f23_j1_c jn Q  ((.pointer c0)::(.int .i64 kind1)::us 20 []) = (
 nilck c0 fun b_1 o_2=>
 st b_1 o_2 (.int .i64 kind1) <|
 nilck c0 fun b_3 o_4=>
 st b_3 (o_4 + 6) (.int .i64 kind1) <|
 nilck c0 fun b_5 o_6=>
 st b_5 (o_6 + 7) (.int .i64 0) <|
 Q (.int .i64 0)):=by kernel_rfl
theorem f23_raw {jn:Jn} {c0:Option Addr} {kind1:Int} {Q:Value -> WP}:funJ jn Tryz.prog f23_kp Tryz.f23 [.pointer c0,.int .i64 kind1] Q = (
 ite2 (decide (kind1 < 0)) (
 Q (.int .i64 4)) (
 ite2 (decide (kind1 >= 5)) (
 Q (.int .i64 4)) (
 f23_j1 jn Q  c0 kind1))):=by kernel_rfl
theorem f23_ok:FnOk Tryz.prog 23 Tryz.f23:=⟨mixed,Tryz.func23,rfl⟩
def f24_kp:KP:=⟨[(5,[0,1,4])],[]⟩
noncomputable def f24_b (l:List Nat):Code:=cAtN l (bodyOf Tryz.f24)
def f24_r (Q:Value -> WP):Env -> WP:=retK Tryz.prog Tryz.f24 Q
def f24_l1 (jn:Jn) (Q:Value -> WP) (m1:Nat) (c0:Option Addr) (kind1 i4:Int):WP:=lop Tryz.prog f24_kp jn (f24_b [1,0,0]) (blkX 0 (f24_r Q) noX) (f24_r Q) m1 ((.pointer c0)::(.int .i64 kind1)::us 2 ((.int .i64 i4)::us 18 []))
theorem f24_l1_raw {jn:Jn} {Q:Value -> WP} {m1:Nat} {c0:Option Addr} {kind1 i4:Int}:f24_l1 jn Q  (m1 + 1) c0 kind1 i4 = (
 nilck c0 fun b_1 o_2=>
 ld .slc b_1 o_2 fun (x_3:Sl)=>
 ite2 (decide (i4 < (x_3.n:Int))) (
 nilck c0 fun b_4 o_5=>
 ld .slc b_4 o_5 fun (x_6:Sl)=>
 idx x_6.a x_6.n i4 fun b_7 o_8=>
 ld .ptr b_7 (o_8 + (i4).toNat * 1) fun (x_9:Option Addr)=>
 call1 (.int .i64) Tryz.prog 56 [.pointer x_9,.int .i64 kind1] fun (x_10:Int)=>
 f24_l1 jn Q  m1 c0 kind1 (IntKind.wrap .i64 (i4 + 1))) (
 Q (.tuple #[]))):=by kernel_rfl
theorem f24_raw {jn:Jn} {c0:Option Addr} {kind1:Int} {Q:Value -> WP}:funJ jn Tryz.prog f24_kp Tryz.f24 [.pointer c0,.int .i64 kind1] Q = (
 exM fun m=>f24_l1 jn Q  m c0 kind1 0):=by kernel_rfl
theorem f24_ok:FnOk Tryz.prog 24 Tryz.f24:=⟨mixed,Tryz.func24,rfl⟩
def f25_kp:KP:=⟨[(6,[0,1,4,14]),(8,[0,1,4]),(13,[0,1,4,5,6]),(20,[0,1,4,5])],[(9,[0,1,2,3,4,5,6,7,9,10])]⟩
noncomputable def f25_b (l:List Nat):Code:=cAtN l (bodyOf Tryz.f25)
def f25_r (Q:Value -> WP):Env -> WP:=retK Tryz.prog Tryz.f25 Q
def f25_e1 (jn:Jn) (Q:Value -> WP):Env -> WP:=seqK Tryz.prog f25_kp jn (f25_b [1,1]) (f25_r Q) noX (f25_r Q)
def f25_e5 (jn:Jn) (Q:Value -> WP):Env -> WP:=seqK Tryz.prog f25_kp jn (f25_b [1,1,1,1]) (f25_r Q) noX (f25_r Q)
def f25_j4_c (jn:Jn) (Q:Value -> WP):Env -> WP:=codeI Tryz.prog f25_kp jn (f25_b [1,1,1,1]) (f25_r Q) noX (f25_r Q)
def f25_j4 (jn:Jn) (Q:Value -> WP) (c0:Option Addr) (n1:Int) (t4_b t4_o r5_b r5_o:Nat):WP:=jn 20 (f25_j4_c jn Q ) ((.pointer c0)::(.int .i64 n1)::us 2 ((.pointer (some ⟨t4_b,t4_o,none⟩))::(.pointer (some ⟨r5_b,r5_o,none⟩))::us 49 []))
def f25_l3 (jn:Jn) (Q:Value -> WP) (m3:Nat) (c0:Option Addr) (n1:Int) (t4_b t4_o r5_b r5_o:Nat) (i6:Int):WP:=lop Tryz.prog f25_kp jn (f25_b [1,1,1,0,1,0,0]) (blkX 0 (f25_e5 jn Q) noX) (f25_r Q) m3 ((.pointer c0)::(.int .i64 n1)::us 2 ((.pointer (some ⟨t4_b,t4_o,none⟩))::(.pointer (some ⟨r5_b,r5_o,none⟩))::(.int .i64 i6)::us 48 []))
def f25_j2_c (jn:Jn) (Q:Value -> WP):Env -> WP:=codeI Tryz.prog f25_kp jn (f25_b [1,1]) (f25_r Q) noX (f25_r Q)
def f25_j2 (jn:Jn) (Q:Value -> WP) (c0:Option Addr) (n1:Int) (t4_b t4_o:Nat):WP:=jn 8 (f25_j2_c jn Q ) ((.pointer c0)::(.int .i64 n1)::us 2 ((.pointer (some ⟨t4_b,t4_o,none⟩))::us 50 []))
def f25_j1_c (jn:Jn) (Q:Value -> WP):Env -> WP:=codeI Tryz.prog f25_kp jn (f25_b [1,0,1]) (f25_e1 jn Q) noX (f25_r Q)
def f25_j1 (jn:Jn) (Q:Value -> WP) (c0:Option Addr) (n1:Int) (t4_b t4_o:Nat) (t14:Bool):WP:=jn 6 (f25_j1_c jn Q ) ((.pointer c0)::(.int .i64 n1)::us 2 ((.pointer (some ⟨t4_b,t4_o,none⟩))::us 9 ((.bool t14)::us 40 [])))
theorem f25_j4_raw {jn:Jn} {Q:Value -> WP} {c0:Option Addr} {n1:Int} {t4_b t4_o r5_b r5_o:Nat}:f25_j4_c jn Q  ((.pointer c0)::(.int .i64 n1)::us 2 ((.pointer (some ⟨t4_b,t4_o,none⟩))::(.pointer (some ⟨r5_b,r5_o,none⟩))::us 49 [])) = (
 drawW fun S=>
 nilck c0 fun b_20 o_21=>
 ldS S .ptr b_20 (o_21 + 1) fun (x_22:Option Addr)=>
 nilck c0 fun b_23 o_24=>
 ld .slc b_23 o_24 fun (x_25:Sl)=>
 keepS true S <|
 call0 Tryz.prog 30 [.pointer x_22,.int .i64 (IntKind.wrap .i64 (n1 * (x_25.n:Int)))] <|
 ld (.int .i64) r5_b r5_o fun (x_26:Int)=>
 ld .bool r5_b (r5_o + 1) fun (x_27:Bool)=>
 ld .str r5_b ((r5_o + 1) + 1) fun (x_28:ByteArray)=>
 ld .slc r5_b (((r5_o + 1) + 1) + 1) fun (x_29:Sl)=>
 st t4_b t4_o (.int .i64 x_26) <|
 st t4_b (t4_o + 1) (.bool x_27) <|
 st t4_b ((t4_o + 1) + 1) (.string x_28) <|
 st t4_b (((t4_o + 1) + 1) + 1) (.slice x_29.a x_29.n x_29.c) <|
 ld (.int .i64) t4_b t4_o fun (x_30:Int)=>
 ld .bool t4_b (t4_o + 1) fun (x_31:Bool)=>
 ld .str t4_b ((t4_o + 1) + 1) fun (x_32:ByteArray)=>
 ld .slc t4_b (((t4_o + 1) + 1) + 1) fun (x_33:Sl)=>
 Q (.agg #[.int .i64 x_30,.bool x_31,.string x_32,.slice x_33.a x_33.n x_33.c])):=by kernel_rfl
theorem f25_l3_raw {jn:Jn} {Q:Value -> WP} {m3:Nat} {c0:Option Addr} {n1:Int} {t4_b t4_o r5_b r5_o:Nat} {i6:Int}:f25_l3 jn Q  (m3 + 1) c0 n1 t4_b t4_o r5_b r5_o i6 = (
 nilck c0 fun b_7 o_8=>
 ld .slc b_7 o_8 fun (x_9:Sl)=>
 ite2 (decide (i6 < (x_9.n:Int))) (
 nilck c0 fun b_10 o_11=>
 ld .slc b_10 o_11 fun (x_12:Sl)=>
 idx x_12.a x_12.n i6 fun b_13 o_14=>
 ld .ptr b_13 (o_14 + (i6).toNat * 1) fun (x_15:Option Addr)=>
 call2 .slc (.int .i64) Tryz.prog 57 [.pointer x_15,.int .i64 n1] fun (x_16:Sl) (x_17:Int)=>
 ld .slc r5_b (r5_o + 3) fun (x_18:Sl)=>
 appendC 9 1 16 [.string str_empty] ⟨x_18.a,x_18.n,x_18.c⟩ x_16.n (fun w=>rdA w x_16.a (x_16.n * 1)) fun s_19=>
 st r5_b (r5_o + 3) (.slice s_19.a s_19.n s_19.c) <|
 f25_l3 jn Q  m3 c0 n1 t4_b t4_o r5_b r5_o (IntKind.wrap .i64 (i6 + 1))) (
 f25_j4 jn Q  c0 n1 t4_b t4_o r5_b r5_o)):=by kernel_rfl
theorem f25_j2_raw {jn:Jn} {Q:Value -> WP} {c0:Option Addr} {n1:Int} {t4_b t4_o:Nat}:f25_j2_c jn Q  ((.pointer c0)::(.int .i64 n1)::us 2 ((.pointer (some ⟨t4_b,t4_o,none⟩))::us 50 [])) = (
 newB [.int .i64 0,.bool false,.string str_empty,.slice none 0 0] 36 fun b_6=>
 exM fun m=>f25_l3 jn Q  m c0 n1 t4_b t4_o b_6 0 0):=by kernel_rfl
theorem f25_j1_raw {jn:Jn} {Q:Value -> WP} {c0:Option Addr} {n1:Int} {t4_b t4_o:Nat} {t14:Bool}:f25_j1_c jn Q  ((.pointer c0)::(.int .i64 n1)::us 2 ((.pointer (some ⟨t4_b,t4_o,none⟩))::us 9 ((.bool t14)::us 40 []))) = (
 ite2 t14 (
 st t4_b t4_o (.int .i64 1) <|
 st t4_b (t4_o + 1) (.bool false) <|
 st t4_b ((t4_o + 1) + 1) (.string str_empty) <|
 st t4_b (((t4_o + 1) + 1) + 1) (.slice none 0 0) <|
 ld (.int .i64) t4_b t4_o fun (x_2:Int)=>
 ld .bool t4_b (t4_o + 1) fun (x_3:Bool)=>
 ld .str t4_b ((t4_o + 1) + 1) fun (x_4:ByteArray)=>
 ld .slc t4_b (((t4_o + 1) + 1) + 1) fun (x_5:Sl)=>
 Q (.agg #[.int .i64 x_2,.bool x_3,.string x_4,.slice x_5.a x_5.n x_5.c])) (
 f25_j2 jn Q  c0 n1 t4_b t4_o)):=by kernel_rfl
theorem f25_raw {jn:Jn} {c0:Option Addr} {n1:Int} {Q:Value -> WP}:funJ jn Tryz.prog f25_kp Tryz.f25 [.pointer c0,.int .i64 n1] Q = (
 newB [.int .i64 0,.bool false,.string str_empty,.slice none 0 0] 36 fun b_1=>
 ite2 (decide (n1 < 1)) (
 f25_j1 jn Q  c0 n1 b_1 0 true) (
 f25_j1 jn Q  c0 n1 b_1 0 (decide (n1 > 1024)))):=by kernel_rfl
theorem f25_ok:FnOk Tryz.prog 25 Tryz.f25:=⟨mixed,Tryz.func25,rfl⟩
def f26_kp:KP:=⟨[],[]⟩
theorem f26_raw {jn:Jn} {reads0 writes1:Int} {Q:Value -> WP}:funJ jn Tryz.prog f26_kp Tryz.f26 [.int .i64 reads0,.int .i64 writes1] Q = (
 ite2 (decide (reads0 < 0)) (
 Q (.tuple #[.pointer none,.int .i64 1])) (
 ite2 (decide (reads0 > 256)) (
 Q (.tuple #[.pointer none,.int .i64 1])) (
 ite2 (decide (writes1 < 1)) (
 Q (.tuple #[.pointer none,.int .i64 1])) (
 ite2 (decide (writes1 > 256)) (
 Q (.tuple #[.pointer none,.int .i64 1])) (
 newB [.slice none 0 0,.int .i64 0,.int .i64 0,.int .i64 reads0,.int .i64 writes1,.int .i64 0] 129 fun b_1=>
 Q (.tuple #[.pointer (some ⟨b_1,0,none⟩),.int .i64 0])))))):=by kernel_rfl
theorem f26_ok:FnOk Tryz.prog 26 Tryz.f26:=⟨mixed,Tryz.func26,rfl⟩
def f27_kp:KP:=⟨[],[]⟩
theorem f27_raw {jn:Jn} {kind0 room1:Int} {Q:Value -> WP}:funJ jn Tryz.prog f27_kp Tryz.f27 [.int .i64 kind0,.int .i64 room1] Q = (
 call2 .ptr (.int .i64) Tryz.prog 58 [.int .i64 kind0,.int .i64 room1] fun (x_1:Option Addr) (x_2:Int)=>
 ite2 (x_2 != 0) (
 Q (.tuple #[.pointer none,.int .i64 x_2])) (
 newB [.pointer x_1,.pointer none] 112 fun b_3=>
 Q (.tuple #[.pointer (some ⟨b_3,0,none⟩),.int .i64 0]))):=by kernel_rfl
theorem f27_ok:FnOk Tryz.prog 27 Tryz.f27:=⟨mixed,Tryz.func27,rfl⟩
def f28_kp:KP:=⟨[(9,[0,1,2]),(14,[0,1])],[]⟩
noncomputable def f28_b (l:List Nat):Code:=cAtN l (bodyOf Tryz.f28)
def f28_r (Q:Value -> WP):Env -> WP:=retK Tryz.prog Tryz.f28 Q
def f28_e2 (jn:Jn) (Q:Value -> WP):Env -> WP:=seqK Tryz.prog f28_kp jn (f28_b [1,1,1]) (f28_r Q) noX (f28_r Q)
def f28_j2_c (jn:Jn) (Q:Value -> WP):Env -> WP:=codeI Tryz.prog f28_kp jn (f28_b [1,1,1]) (f28_r Q) noX (f28_r Q)
def f28_j2 (jn:Jn) (Q:Value -> WP) (t0_b t0_o w1_b w1_o:Nat):WP:=jn 14 (f28_j2_c jn Q ) ((.pointer (some ⟨t0_b,t0_o,none⟩))::(.pointer (some ⟨w1_b,w1_o,none⟩))::us 12 [])
def f28_l1 (jn:Jn) (Q:Value -> WP) (m1:Nat) (t0_b t0_o w1_b w1_o:Nat) (i2:Int):WP:=lop Tryz.prog f28_kp jn (f28_b [1,1,0,1,0,0]) (blkX 0 (f28_e2 jn Q) noX) (f28_r Q) m1 ((.pointer (some ⟨t0_b,t0_o,none⟩))::(.pointer (some ⟨w1_b,w1_o,none⟩))::(.int .i64 i2)::us 11 [])
theorem f28_j2_raw {jn:Jn} {Q:Value -> WP} {t0_b t0_o w1_b w1_o:Nat}:f28_j2_c jn Q  ((.pointer (some ⟨t0_b,t0_o,none⟩))::(.pointer (some ⟨w1_b,w1_o,none⟩))::us 12 []) = (
 when ((0:Int) <= (0:Int) /\ (0:Int) < ((5:Nat):Int)) <|
 ld (.int .u64) w1_b (w1_o + ((0:Int)).toNat * 1) fun (x_3:Int)=>
 when ((0:Int) <= (0:Int) /\ (0:Int) < ((5:Nat):Int)) <|
 st w1_b (w1_o + ((0:Int)).toNat * 1) (.int .u64 (IntKind.wrap .u64 (x_3 + 1))) <|
 ld (.int .u64) w1_b w1_o fun (x_4:Int)=>
 ld (.int .u64) w1_b (w1_o + 1) fun (x_5:Int)=>
 ld (.int .u64) w1_b ((w1_o + 1) + 1) fun (x_6:Int)=>
 ld (.int .u64) w1_b (((w1_o + 1) + 1) + 1) fun (x_7:Int)=>
 ld (.int .u64) w1_b ((((w1_o + 1) + 1) + 1) + 1) fun (x_8:Int)=>
 st t0_b t0_o (.int .u64 x_4) <|
 st t0_b (t0_o + 1) (.int .u64 x_5) <|
 st t0_b ((t0_o + 1) + 1) (.int .u64 x_6) <|
 st t0_b (((t0_o + 1) + 1) + 1) (.int .u64 x_7) <|
 st t0_b ((((t0_o + 1) + 1) + 1) + 1) (.int .u64 x_8) <|
 ld (.int .u64) t0_b t0_o fun (x_9:Int)=>
 ld (.int .u64) t0_b (t0_o + 1) fun (x_10:Int)=>
 ld (.int .u64) t0_b ((t0_o + 1) + 1) fun (x_11:Int)=>
 ld (.int .u64) t0_b (((t0_o + 1) + 1) + 1) fun (x_12:Int)=>
 ld (.int .u64) t0_b ((((t0_o + 1) + 1) + 1) + 1) fun (x_13:Int)=>
 Q (.agg #[.int .u64 x_9,.int .u64 x_10,.int .u64 x_11,.int .u64 x_12,.int .u64 x_13])):=by kernel_rfl
theorem f28_l1_raw {jn:Jn} {Q:Value -> WP} {m1:Nat} {t0_b t0_o w1_b w1_o:Nat} {i2:Int}:f28_l1 jn Q  (m1 + 1) t0_b t0_o w1_b w1_o i2 = (
 ite2 (decide (i2 < 5)) (
 when ((0:Int) <= i2 /\ i2 < ((5:Nat):Int)) <|
 st w1_b (w1_o + (i2).toNat * 1) (.int .u64 858993459) <|
 f28_l1 jn Q  m1 t0_b t0_o w1_b w1_o (IntKind.wrap .i64 (i2 + 1))) (
 f28_j2 jn Q  t0_b t0_o w1_b w1_o)):=by kernel_rfl
theorem f28_raw {jn:Jn} {Q:Value -> WP}:funJ jn Tryz.prog f28_kp Tryz.f28 [] Q = (
 newB [.int .u64 0,.int .u64 0,.int .u64 0,.int .u64 0,.int .u64 0] 88 fun b_1=>
 newB [.int .u64 0,.int .u64 0,.int .u64 0,.int .u64 0,.int .u64 0] 88 fun b_2=>
 exM fun m=>f28_l1 jn Q  m b_1 0 b_2 0 0):=by kernel_rfl
theorem f28_ok:FnOk Tryz.prog 28 Tryz.f28:=⟨mixed,Tryz.func28,rfl⟩
def f29_kp:KP:=⟨[],[]⟩
theorem f29_raw {jn:Jn} {rate0:Int} {Q:Value -> WP}:funJ jn Tryz.prog f29_kp Tryz.f29 [.int .i64 rate0] Q = (
 call1 (.int .i64) Tryz.prog 59 [.int .i64 rate0,.int .i64 0,.int .i64 16777216] fun (x_1:Int)=>
 newB [.int .i64 x_1,.int .i64 0,.int .i64 0] 134 fun b_2=>
 Q (.pointer (some ⟨b_2,0,none⟩))):=by kernel_rfl
theorem f29_ok:FnOk Tryz.prog 29 Tryz.f29:=⟨mixed,Tryz.func29,rfl⟩
def f30_kp:KP:=⟨[(9,[0,4])],[]⟩
noncomputable def f30_b (l:List Nat):Code:=cAtN l (bodyOf Tryz.f30)
def f30_r (Q:Value -> WP):Env -> WP:=retK Tryz.prog Tryz.f30 Q
def f30_l1 (jn:Jn) (Q:Value -> WP) (m1:Nat) (p0:Option Addr) (k4:Int):WP:=lop Tryz.prog f30_kp jn (f30_b [1,1,1,0,0]) (blkX 0 (f30_r Q) noX) (f30_r Q) m1 ((.pointer p0)::us 3 ((.int .i64 k4)::us 37 []))
theorem f30_l1_raw {jn:Jn} {Q:Value -> WP} {m1:Nat} {p0:Option Addr} {k4:Int}:f30_l1 jn Q  (m1 + 1) p0 k4 = (
 ite2 (decide (k4 < 5)) (
 nilck p0 fun b_9 o_10=>
 ld (.int .i64) b_9 (o_10 + 1) fun (x_11:Int)=>
 call2 .ptr (.int .i64) Tryz.prog 61 [.int .i64 k4,.int .i64 x_11] fun (x_12:Option Addr) (x_13:Int)=>
 nilck p0 fun b_14 o_15=>
 ld .slc b_14 (o_15 + 2) fun (x_16:Sl)=>
 newB [.pointer x_12] 135 fun b_17=>
 appendC 135 1 8 [.pointer none] ⟨x_16.a,x_16.n,x_16.c⟩ 1 (fun w=>rdA w (some ⟨b_17,0,none⟩) (1 * 1)) fun s_18=>
 nilck p0 fun b_19 o_20=>
 st b_19 (o_20 + 2) (.slice s_18.a s_18.n s_18.c) <|
 f30_l1 jn Q  m1 p0 (IntKind.wrap .i64 (k4 + 1))) (
 Q (.tuple #[]))):=by kernel_rfl
theorem f30_raw {jn:Jn} {p0:Option Addr} {room1:Int} {Q:Value -> WP}:funJ jn Tryz.prog f30_kp Tryz.f30 [.pointer p0,.int .i64 room1] Q = (
 nilck p0 fun b_1 o_2=>
 ld .ptr b_1 o_2 fun (x_3:Option Addr)=>
 call1 (.int .i64) Tryz.prog 60 [.pointer x_3,.int .i64 room1] fun (x_4:Int)=>
 nilck p0 fun b_5 o_6=>
 st b_5 (o_6 + 1) (.int .i64 x_4) <|
 nilck p0 fun b_7 o_8=>
 st b_7 (o_8 + 2) (.slice none 0 0) <|
 exM fun m=>f30_l1 jn Q  m p0 0):=by kernel_rfl
theorem f30_ok:FnOk Tryz.prog 30 Tryz.f30:=⟨mixed,Tryz.func30,rfl⟩
def f31_kp:KP:=⟨[],[]⟩
theorem f31_raw {jn:Jn} {Q:Value -> WP}:funJ jn Tryz.prog f31_kp Tryz.f31 [] Q = (
 call1 .ptr Tryz.prog 62 [.int .u64 0] fun (x_1:Option Addr)=>
 newB [.pointer x_1] 143 fun b_2=>
 Q (.pointer (some ⟨b_2,0,none⟩))):=by kernel_rfl
theorem f31_ok:FnOk Tryz.prog 31 Tryz.f31:=⟨mixed,Tryz.func31,rfl⟩
def f32_kp:KP:=⟨[],[(1,[0,1,2,3,4,5,6,7,8,11,12,13,14,15])]⟩
theorem f32_raw {jn:Jn} {j0:Option Addr} {o1_0:Int} {o1_1 o1_2:ByteArray} {o1_3 r2_0:Int} {r2_1:Bool} {r2_2:ByteArray} {r2_3:Sl} {Q:Value -> WP}:funJ jn Tryz.prog f32_kp Tryz.f32 [.pointer j0,.agg #[.int .i64 o1_0,.string o1_1,.string o1_2,.int .i64 o1_3],.agg #[.int .i64 r2_0,.bool r2_1,.string r2_2,.slice r2_3.a r2_3.n r2_3.c]] Q = (
 newB [.int .i64 o1_0,.string o1_1,.string o1_2,.int .i64 o1_3] 39 fun b_1=>
 newB [.int .i64 r2_0,.bool r2_1,.string r2_2,.slice r2_3.a r2_3.n r2_3.c] 36 fun b_2=>
 drawW fun S=>
 nilck j0 fun b_3 o_4=>
 ldS S .ptr b_3 o_4 fun (x_5:Option Addr)=>
 ldS S .str b_1 1 fun (x_6:ByteArray)=>
 nilck j0 fun b_7 o_8=>
 ld (.int .i64) b_7 (o_8 + 3) fun (x_9:Int)=>
 keepS true S <|
 call2 .str .bool Tryz.prog 63 [.pointer x_5,.string x_6,.int .i64 x_9] fun (x_10:ByteArray) (x_11:Bool)=>
 ld (.int .i64) b_1 0 fun (x_12:Int)=>
 ite2 (x_12 == 1) (
 ld .bool b_2 1 fun (x_13:Bool)=>
 ite2 (x_13 == x_11) (
 ld .str b_2 2 fun (x_14:ByteArray)=>
 Q (.bool (sEq x_14 x_10))) (
 Q (.bool false))) (
 ite2 (x_12 == 3) (
 ld .bool b_2 1 fun (x_15:Bool)=>
 Q (.bool (x_15 == x_11))) (
 Q (.bool true)))):=by kernel_rfl
theorem f32_ok:FnOk Tryz.prog 32 Tryz.f32:=⟨mixed,Tryz.func32,rfl⟩
def f33_kp:KP:=⟨[(9,[0,1,7,13,14,15]),(24,[0,1,7,9,11,13,14,15,32,33]),(30,[0,1,7,9,11,13,14,15]),(38,[])],[(5,[0,1,2,3,4,5,6,7,10,11,12,13,14])]⟩
noncomputable def f33_b (l:List Nat):Code:=cAtN l (bodyOf Tryz.f33)
def f33_r (Q:Value -> WP):Env -> WP:=retK Tryz.prog Tryz.f33 Q
def f33_e2 (jn:Jn) (Q:Value -> WP):Env -> WP:=seqK Tryz.prog f33_kp jn (f33_b [1,1,1]) (f33_r Q) noX (f33_r Q)
def f33_e4 (jn:Jn) (Q:Value -> WP) (m1:Nat):Env -> WP:=lopK Tryz.prog f33_kp jn (f33_b [1,1,0,1,0,0]) (blkX 0 (f33_e2 jn Q) noX) (f33_r Q) m1
def f33_e7 (jn:Jn) (Q:Value -> WP) (m1:Nat):Env -> WP:=seqK Tryz.prog f33_kp jn (f33_b [1,1,0,1,0,0,1,1,1]) (f33_e4 jn Q m1) (blkX 0 (f33_e2 jn Q) noX) (f33_r Q)
def f33_e8 (jn:Jn) (Q:Value -> WP) (m1:Nat):Nat -> Env -> WP:=blkX 1 (f33_e7 jn Q m1) (blkX 0 (f33_e2 jn Q) noX)
def f33_e11 (jn:Jn) (Q:Value -> WP) (m1:Nat):Env -> WP:=seqK Tryz.prog f33_kp jn (f33_b [1,1,0,1,0,0,1,1,0,0,1,1,1]) (f33_e7 jn Q m1) (f33_e8 jn Q m1) (f33_r Q)
def f33_e13 (jn:Jn) (Q:Value -> WP) (m1:Nat):Nat -> Env -> WP:=blkX 2 (f33_e11 jn Q m1) (f33_e8 jn Q m1)
def f33_j3_c (jn:Jn) (Q:Value -> WP) (m1:Nat):Env -> WP:=codeI Tryz.prog f33_kp jn (f33_b [1,1,0,1,0,0,1,1,0,0,1,1,1]) (f33_e7 jn Q m1) (f33_e8 jn Q m1) (f33_r Q)
def f33_j3 (jn:Jn) (Q:Value -> WP) (m1:Nat) (j0:Option Addr) (kind1:Int) (seen7:Option Nat) (key9:ByteArray) (alive11:Bool) (t13:Sl) (t14 t15:Int):WP:=jn 30 (f33_j3_c jn Q m1) ((.pointer j0)::(.int .i64 kind1)::us 5 ((.map seen7)::us 1 ((.string key9)::us 1 ((.bool alive11)::us 1 ((.slice t13.a t13.n t13.c)::(.int .i64 t14)::(.int .i64 t15)::us 42 [])))))
def f33_j2_c (jn:Jn) (Q:Value -> WP) (m1:Nat):Env -> WP:=codeI Tryz.prog f33_kp jn (f33_b [1,1,0,1,0,0,1,1,0,0,1,1,0,1,0,1]) (f33_e11 jn Q m1) (f33_e13 jn Q m1) (f33_r Q)
def f33_j2 (jn:Jn) (Q:Value -> WP) (m1:Nat) (j0:Option Addr) (kind1:Int) (seen7:Option Nat) (key9:ByteArray) (alive11:Bool) (t13:Sl) (t14 t15 t32:Int) (t33:Bool):WP:=jn 24 (f33_j2_c jn Q m1) ((.pointer j0)::(.int .i64 kind1)::us 5 ((.map seen7)::us 1 ((.string key9)::us 1 ((.bool alive11)::us 1 ((.slice t13.a t13.n t13.c)::(.int .i64 t14)::(.int .i64 t15)::us 16 ((.int .i64 t32)::(.bool t33)::us 24 []))))))
def f33_j4_c (jn:Jn) (Q:Value -> WP):Env -> WP:=codeI Tryz.prog f33_kp jn (f33_b [1,1,1]) (f33_r Q) noX (f33_r Q)
def f33_j4 (jn:Jn) (Q:Value -> WP):WP:=jn 38 (f33_j4_c jn Q ) (us 58 [])
def f33_l1 (jn:Jn) (Q:Value -> WP) (m1:Nat) (j0:Option Addr) (kind1:Int) (seen7:Option Nat) (t13:Sl) (t14 t15:Int):WP:=lop Tryz.prog f33_kp jn (f33_b [1,1,0,1,0,0]) (blkX 0 (f33_e2 jn Q) noX) (f33_r Q) m1 ((.pointer j0)::(.int .i64 kind1)::us 5 ((.map seen7)::us 5 ((.slice t13.a t13.n t13.c)::(.int .i64 t14)::(.int .i64 t15)::us 42 [])))
theorem f33_j3_raw {jn:Jn} {Q:Value -> WP} {m1:Nat} {j0:Option Addr} {kind1:Int} {seen7:Option Nat} {key9:ByteArray} {alive11:Bool} {t13:Sl} {t14 t15:Int}:f33_j3_c jn Q m1 ((.pointer j0)::(.int .i64 kind1)::us 5 ((.map seen7)::us 1 ((.string key9)::us 1 ((.bool alive11)::us 1 ((.slice t13.a t13.n t13.c)::(.int .i64 t14)::(.int .i64 t15)::us 42 []))))) = (
 ite2 alive11 (
 Q (.bool false)) (
 mLook Tryz.prog 144 (.map seen7) (.string key9) .bool fun (x_13:Bool)=>
 ite2 x_13 (
 Q (.bool false)) (
 nilck j0 fun b_14 o_15=>
 ld .ptr b_14 o_15 fun (x_16:Option Addr)=>
 call1 .bool Tryz.prog 64 [.pointer x_16,.string key9] fun (x_17:Bool)=>
 ite2 (!x_17) (
 Q (.bool false)) (
 mUp Tryz.prog 144 (.map seen7) (.string key9) (.bool true) <|
 f33_l1 jn Q  m1 j0 kind1 seen7 t13 t14 (IntKind.wrap .i64 (t15 + 1)))))):=by kernel_rfl
theorem f33_j2_raw {jn:Jn} {Q:Value -> WP} {m1:Nat} {j0:Option Addr} {kind1:Int} {seen7:Option Nat} {key9:ByteArray} {alive11:Bool} {t13:Sl} {t14 t15 t32:Int} {t33:Bool}:f33_j2_c jn Q m1 ((.pointer j0)::(.int .i64 kind1)::us 5 ((.map seen7)::us 1 ((.string key9)::us 1 ((.bool alive11)::us 1 ((.slice t13.a t13.n t13.c)::(.int .i64 t14)::(.int .i64 t15)::us 16 ((.int .i64 t32)::(.bool t33)::us 24 [])))))) = (
 ite2 t33 (
 f33_j3 jn Q m1 j0 kind1 seen7 key9 alive11 t13 t14 t15) (
 ite2 (t32 == 2) (
 ite2 (t32 == 2) (
 f33_j3 jn Q m1 j0 kind1 seen7 key9 false t13 t14 t15) (
 Q (.bool false))) (
 ite2 (t32 == 9) (
 f33_j3 jn Q m1 j0 kind1 seen7 key9 false t13 t14 t15) (
 Q (.bool false))))):=by kernel_rfl
theorem f33_j4_raw {jn:Jn} {Q:Value -> WP}:f33_j4_c jn Q  (us 58 []) = (
 Q (.bool true)):=by kernel_rfl
theorem f33_l1_raw {jn:Jn} {Q:Value -> WP} {m1:Nat} {j0:Option Addr} {kind1:Int} {seen7:Option Nat} {t13:Sl} {t14 t15:Int}:f33_l1 jn Q  (m1 + 1) j0 kind1 seen7 t13 t14 t15 = (
 ite2 (decide (t15 < t14)) (
 idx t13.a t13.n t15 fun b_2 o_3=>
 ld .str b_2 (o_3 + (t15).toNat * 1) fun (x_4:ByteArray)=>
 drawW fun S=>
 nilck j0 fun b_5 o_6=>
 ldS S .ptr b_5 o_6 fun (x_7:Option Addr)=>
 nilck j0 fun b_8 o_9=>
 ld (.int .i64) b_8 (o_9 + 3) fun (x_10:Int)=>
 keepS true S <|
 call2 .str .bool Tryz.prog 63 [.pointer x_7,.string x_4,.int .i64 x_10] fun (x_11:ByteArray) (x_12:Bool)=>
 ite2 (kind1 == 1) (
 f33_j2 jn Q m1 j0 kind1 seen7 x_4 x_12 t13 t14 t15 kind1 (kind1 == 1)) (
 ite2 (kind1 == 3) (
 f33_j2 jn Q m1 j0 kind1 seen7 x_4 x_12 t13 t14 t15 kind1 (kind1 == 3)) (
 f33_j2 jn Q m1 j0 kind1 seen7 x_4 x_12 t13 t14 t15 kind1 (kind1 == 4)))) (
 f33_j4 jn Q  )):=by kernel_rfl
theorem f33_raw {jn:Jn} {j0:Option Addr} {kind1:Int} {gone2:Sl} {Q:Value -> WP}:funJ jn Tryz.prog f33_kp Tryz.f33 [.pointer j0,.int .i64 kind1,.slice gone2.a gone2.n gone2.c] Q = (
 newM fun b_1=>
 exM fun m=>f33_l1 jn Q  m j0 kind1 (some b_1) gone2 (gone2.n:Int) 0):=by kernel_rfl
theorem f33_ok:FnOk Tryz.prog 33 Tryz.f33:=⟨mixed,Tryz.func33,rfl⟩
def f34_kp:KP:=⟨[(7,[0,4,8,9,10]),(14,[0,4])],[(8,[0,1,2,3,4,5,6,7,8,9,10,11,12]),(10,[0,1,2,3,4])]⟩
noncomputable def f34_b (l:List Nat):Code:=cAtN l (bodyOf Tryz.f34)
def f34_r (Q:Value -> WP):Env -> WP:=retK Tryz.prog Tryz.f34 Q
def f34_e1 (jn:Jn) (Q:Value -> WP):Env -> WP:=seqK Tryz.prog f34_kp jn (f34_b [1,1]) (f34_r Q) noX (f34_r Q)
def f34_j2_c (jn:Jn) (Q:Value -> WP):Env -> WP:=codeI Tryz.prog f34_kp jn (f34_b [1,1]) (f34_r Q) noX (f34_r Q)
def f34_j2 (jn:Jn) (Q:Value -> WP) (j0:Option Addr) (o4_b o4_o:Nat):WP:=jn 14 (f34_j2_c jn Q ) ((.pointer j0)::us 3 ((.pointer (some ⟨o4_b,o4_o,none⟩))::us 51 []))
def f34_l1 (jn:Jn) (Q:Value -> WP) (m1:Nat) (j0:Option Addr) (o4_b o4_o:Nat) (t8:Sl) (t9 t10:Int):WP:=lop Tryz.prog f34_kp jn (f34_b [1,0,1,0,0]) (blkX 0 (f34_e1 jn Q) noX) (f34_r Q) m1 ((.pointer j0)::us 3 ((.pointer (some ⟨o4_b,o4_o,none⟩))::us 3 ((.slice t8.a t8.n t8.c)::(.int .i64 t9)::(.int .i64 t10)::us 45 [])))
theorem f34_j2_raw {jn:Jn} {Q:Value -> WP} {j0:Option Addr} {o4_b o4_o:Nat}:f34_j2_c jn Q  ((.pointer j0)::us 3 ((.pointer (some ⟨o4_b,o4_o,none⟩))::us 51 [])) = (
 ld (.int .i64) o4_b o4_o fun (x_9:Int)=>
 ite2 (x_9 == 2) (
 drawW fun S=>
 nilck j0 fun b_10 o_11=>
 ldS S .ptr b_10 o_11 fun (x_12:Option Addr)=>
 ldS S .str o4_b (o4_o + 1) fun (x_13:ByteArray)=>
 ldS S .str o4_b (o4_o + 2) fun (x_14:ByteArray)=>
 nilck j0 fun b_15 o_16=>
 ldS S (.int .i64) b_15 (o_16 + 3) fun (x_17:Int)=>
 ld (.int .i64) o4_b (o4_o + 3) fun (x_18:Int)=>
 keepS true S <|
 call2 .bool (.int .i64) Tryz.prog 66 [.pointer x_12,.string x_13,.string x_14,.int .i64 x_17,.int .i64 x_18] fun (x_19:Bool) (x_20:Int)=>
 Q (.tuple #[])) (
 ite2 (x_9 == 3) (
 drawW fun S=>
 nilck j0 fun b_21 o_22=>
 ldS S .ptr b_21 o_22 fun (x_23:Option Addr)=>
 ld .str o4_b (o4_o + 1) fun (x_24:ByteArray)=>
 keepS true S <|
 call1 .bool Tryz.prog 65 [.pointer x_23,.string x_24] fun (x_25:Bool)=>
 Q (.tuple #[])) (
 ite2 (x_9 == 9) (
 ld (.int .i64) o4_b (o4_o + 3) fun (x_26:Int)=>
 nilck j0 fun b_27 o_28=>
 st b_27 (o_28 + 2) (.int .i64 x_26) <|
 Q (.tuple #[])) (
 Q (.tuple #[]))))):=by kernel_rfl
theorem f34_l1_raw {jn:Jn} {Q:Value -> WP} {m1:Nat} {j0:Option Addr} {o4_b o4_o:Nat} {t8:Sl} {t9 t10:Int}:f34_l1 jn Q  (m1 + 1) j0 o4_b o4_o t8 t9 t10 = (
 ite2 (decide (t10 < t9)) (
 idx t8.a t8.n t10 fun b_2 o_3=>
 ld .str b_2 (o_3 + (t10).toNat * 1) fun (x_4:ByteArray)=>
 nilck j0 fun b_5 o_6=>
 ld .ptr b_5 o_6 fun (x_7:Option Addr)=>
 call1 .bool Tryz.prog 65 [.pointer x_7,.string x_4] fun (x_8:Bool)=>
 f34_l1 jn Q  m1 j0 o4_b o4_o t8 t9 (IntKind.wrap .i64 (t10 + 1))) (
 f34_j2 jn Q  j0 o4_b o4_o)):=by kernel_rfl
theorem f34_raw {jn:Jn} {j0:Option Addr} {o1_0:Int} {o1_1 o1_2:ByteArray} {o1_3:Int} {gone2:Sl} {Q:Value -> WP}:funJ jn Tryz.prog f34_kp Tryz.f34 [.pointer j0,.agg #[.int .i64 o1_0,.string o1_1,.string o1_2,.int .i64 o1_3],.slice gone2.a gone2.n gone2.c] Q = (
 newB [.int .i64 o1_0,.string o1_1,.string o1_2,.int .i64 o1_3] 39 fun b_1=>
 exM fun m=>f34_l1 jn Q  m j0 b_1 0 gone2 (gone2.n:Int) 0):=by kernel_rfl
theorem f34_ok:FnOk Tryz.prog 34 Tryz.f34:=⟨mixed,Tryz.func34,rfl⟩
def f35_kp:KP:=⟨[(8,[0])],[(3,[0,1,2,3,5,6,7,8,9,10,11,12,13,14,15])]⟩
noncomputable def f35_b (l:List Nat):Code:=cAtN l (bodyOf Tryz.f35)
def f35_r (Q:Value -> WP):Env -> WP:=retK Tryz.prog Tryz.f35 Q
def f35_j1_c (jn:Jn) (Q:Value -> WP):Env -> WP:=codeI Tryz.prog f35_kp jn (f35_b [1,1]) (f35_r Q) noX (f35_r Q)
def f35_j1 (jn:Jn) (Q:Value -> WP) (j0:Option Addr):WP:=jn 8 (f35_j1_c jn Q ) ((.pointer j0)::us 43 [])
theorem f35_j1_raw {jn:Jn} {Q:Value -> WP} {j0:Option Addr}:f35_j1_c jn Q  ((.pointer j0)::us 43 []) = (
 drawW fun S=>
 nilck j0 fun b_13 o_14=>
 ldS S .ptr b_13 o_14 fun (x_15:Option Addr)=>
 nilck j0 fun b_16 o_17=>
 ldS S (.int .i64) b_16 (o_17 + 1) fun (x_18:Int)=>
 nilck j0 fun b_19 o_20=>
 ldS S (.int .i64) b_19 (o_20 + 2) fun (x_21:Int)=>
 call1 (.int .i64) Tryz.prog 67 [.pointer x_15] fun (x_22:Int)=>
 keepS true S <|
 Q (.bool (decide (x_22 <= (IntKind.wrap .i64 (x_18 * x_21)))))):=by kernel_rfl
theorem f35_raw {jn:Jn} {j0:Option Addr} {Q:Value -> WP}:funJ jn Tryz.prog f35_kp Tryz.f35 [.pointer j0] Q = (
 nilck j0 fun b_1 o_2=>
 ld (.int .i64) b_1 (o_2 + 1) fun (x_3:Int)=>
 ite2 (decide (x_3 < 0)) (
 Q (.bool true)) (
 nilck j0 fun b_4 o_5=>
 ld (.int .i64) b_4 (o_5 + 1) fun (x_6:Int)=>
 ite2 (decide (x_6 > 1048576)) (
 Q (.bool true)) (
 nilck j0 fun b_7 o_8=>
 ld (.int .i64) b_7 (o_8 + 2) fun (x_9:Int)=>
 ite2 (decide (x_9 < 0)) (
 Q (.bool true)) (
 nilck j0 fun b_10 o_11=>
 ld (.int .i64) b_10 (o_11 + 2) fun (x_12:Int)=>
 ite2 (decide (x_12 > 1048576)) (
 Q (.bool true)) (
 f35_j1 jn Q  j0))))):=by kernel_rfl
theorem f35_ok:FnOk Tryz.prog 35 Tryz.f35:=⟨mixed,Tryz.func35,rfl⟩
def f36_kp:KP:=⟨[],[]⟩
theorem f36_raw {jn:Jn} {key0:ByteArray} {n1:Int} {Q:Value -> WP}:funJ jn Tryz.prog f36_kp Tryz.f36 [.string key0,.int .i64 n1] Q = (
 call1 (.int .u64) Tryz.prog 69 [.int .u64 31,.string key0] fun (x_1:Int)=>
 call1 (.int .i64) Tryz.prog 68 [.int .u64 x_1,.int .i64 (if 8 < (if 1 > n1 then 1 else n1) then 8 else (if 1 > n1 then 1 else n1))] fun (x_2:Int)=>
 Q (.int .i64 x_2)):=by kernel_rfl
theorem f36_ok:FnOk Tryz.prog 36 Tryz.f36:=⟨mixed,Tryz.func36,rfl⟩
def f37_kp:KP:=⟨[],[]⟩
theorem f37_raw {jn:Jn} {key0:ByteArray} {now1:Int} {Q:Value -> WP}:funJ jn Tryz.prog f37_kp Tryz.f37 [.string key0,.int .i64 now1] Q = (
 call1 .bool Tryz.prog 70 [.string key0] fun (x_1:Bool)=>
 ite2 (!x_1) (
 Q (.int .i64 2)) (
 ite2 (decide (now1 < 0)) (
 Q (.int .i64 1)) (
 ite2 (decide (now1 > 1125899906842624)) (
 Q (.int .i64 1)) (
 Q (.int .i64 0))))):=by kernel_rfl
theorem f37_ok:FnOk Tryz.prog 37 Tryz.f37:=⟨mixed,Tryz.func37,rfl⟩
def f38_kp:KP:=⟨[(10,[0,1])],[]⟩
noncomputable def f38_b (l:List Nat):Code:=cAtN l (bodyOf Tryz.f38)
def f38_r (Q:Value -> WP):Env -> WP:=retK Tryz.prog Tryz.f38 Q
def f38_j1_c (jn:Jn) (Q:Value -> WP):Env -> WP:=codeI Tryz.prog f38_kp jn (f38_b [1,1,1]) (f38_r Q) noX (f38_r Q)
def f38_j1 (jn:Jn) (Q:Value -> WP) (s0:Option Addr) (key1:ByteArray):WP:=jn 10 (f38_j1_c jn Q ) ((.pointer s0)::(.string key1)::us 36 [])
theorem f38_j1_raw {jn:Jn} {Q:Value -> WP} {s0:Option Addr} {key1:ByteArray}:f38_j1_c jn Q  ((.pointer s0)::(.string key1)::us 36 []) = (
 newB [.string key1] 9 fun b_10=>
 call0 Tryz.prog 49 [.pointer s0,.slice (some ⟨b_10,0,none⟩) 1 1] <|
 call0 Tryz.prog 46 [.pointer s0,.int .i64 3,.string key1] <|
 newB [.string key1] 9 fun b_11=>
 Q (.slice (some ⟨b_11,0,none⟩) 1 1)):=by kernel_rfl
theorem f38_raw {jn:Jn} {s0:Option Addr} {key1:ByteArray} {now2:Int} {Q:Value -> WP}:funJ jn Tryz.prog f38_kp Tryz.f38 [.pointer s0,.string key1,.int .i64 now2] Q = (
 nilck s0 fun b_1 o_2=>
 ld .ptr b_1 o_2 fun (x_3:Option Addr)=>
 call2 .str .bool Tryz.prog 39 [.pointer x_3,.string key1,.int .i64 now2] fun (x_4:ByteArray) (x_5:Bool)=>
 ite2 x_5 (
 Q (.slice none 0 0)) (
 nilck s0 fun b_6 o_7=>
 ld .ptr b_6 o_7 fun (x_8:Option Addr)=>
 call1 .bool Tryz.prog 44 [.pointer x_8,.string key1] fun (x_9:Bool)=>
 ite2 (!x_9) (
 Q (.slice none 0 0)) (
 f38_j1 jn Q  s0 key1))):=by kernel_rfl
theorem f38_ok:FnOk Tryz.prog 38 Tryz.f38:=⟨mixed,Tryz.func38,rfl⟩
def f39_kp:KP:=⟨[(10,[0,8])],[]⟩
noncomputable def f39_b (l:List Nat):Code:=cAtN l (bodyOf Tryz.f39)
def f39_r (Q:Value -> WP):Env -> WP:=retK Tryz.prog Tryz.f39 Q
def f39_j1_c (jn:Jn) (Q:Value -> WP):Env -> WP:=codeI Tryz.prog f39_kp jn (f39_b [1,1,1]) (f39_r Q) noX (f39_r Q)
def f39_j1 (jn:Jn) (Q:Value -> WP) (t0:Option Addr) (i8:Int):WP:=jn 10 (f39_j1_c jn Q ) ((.pointer t0)::us 7 ((.int .i64 i8)::us 28 []))
theorem f39_j1_raw {jn:Jn} {Q:Value -> WP} {t0:Option Addr} {i8:Int}:f39_j1_c jn Q  ((.pointer t0)::us 7 ((.int .i64 i8)::us 28 [])) = (
 nilck t0 fun b_12 o_13=>
 ld .slc b_12 o_13 fun (x_14:Sl)=>
 idx x_14.a x_14.n i8 fun b_15 o_16=>
 ld .str b_15 ((o_16 + (i8).toNat * 3) + 1) fun (x_17:ByteArray)=>
 Q (.tuple #[.string x_17,.bool true])):=by kernel_rfl
theorem f39_raw {jn:Jn} {t0:Option Addr} {key1:ByteArray} {now2:Int} {Q:Value -> WP}:funJ jn Tryz.prog f39_kp Tryz.f39 [.pointer t0,.string key1,.int .i64 now2] Q = (
 call2 (.int .i64) .bool Tryz.prog 71 [.pointer t0,.string key1] fun (x_1:Int) (x_2:Bool)=>
 ite2 (!x_2) (
 Q (.tuple #[.string str_empty,.bool false])) (
 nilck t0 fun b_3 o_4=>
 ld .slc b_3 o_4 fun (x_5:Sl)=>
 idx x_5.a x_5.n x_1 fun b_6 o_7=>
 ld .str b_6 (o_7 + (x_1).toNat * 3) fun (x_8:ByteArray)=>
 ld .str b_6 ((o_7 + (x_1).toNat * 3) + 1) fun (x_9:ByteArray)=>
 ld (.int .i64) b_6 (((o_7 + (x_1).toNat * 3) + 1) + 1) fun (x_10:Int)=>
 call1 .bool Tryz.prog 72 [.agg #[.string x_8,.string x_9,.int .i64 x_10],.int .i64 now2] fun (x_11:Bool)=>
 ite2 x_11 (
 Q (.tuple #[.string str_empty,.bool false])) (
 f39_j1 jn Q  t0 x_1))):=by kernel_rfl
theorem f39_ok:FnOk Tryz.prog 39 Tryz.f39:=⟨mixed,Tryz.func39,rfl⟩
def f40_kp:KP:=⟨[],[]⟩
theorem f40_raw {jn:Jn} {n0:Int} {Q:Value -> WP}:funJ jn Tryz.prog f40_kp Tryz.f40 [.int .i64 n0] Q = (
 call1 (.int .i64) Tryz.prog 73 [.int .i64 n0,.int .i64 1099511627776] fun (x_1:Int)=>
 Q (.int .i64 x_1)):=by kernel_rfl
theorem f40_ok:FnOk Tryz.prog 40 Tryz.f40:=⟨mixed,Tryz.func40,rfl⟩
def f41_kp:KP:=⟨[],[(1,[0,1,2,3,4,5,6,8])]⟩
theorem f41_raw {jn:Jn} {f0:Option Addr} {key1:ByteArray} {Q:Value -> WP}:funJ jn Tryz.prog f41_kp Tryz.f41 [.pointer f0,.string key1] Q = (
 drawW fun S=>
 nilck f0 fun b_1 o_2=>
 ldS S (.int .i64) b_1 (o_2 + 1) fun (x_3:Int)=>
 nilck f0 fun b_4 o_5=>
 ld (.int .i64) b_4 (o_5 + 3) fun (x_6:Int)=>
 keepS true S <|
 ite2 (decide (x_3 >= x_6)) (
 nilck f0 fun b_7 o_8=>
 ld (.int .i64) b_7 (o_8 + 5) fun (x_9:Int)=>
 nilck f0 fun b_10 o_11=>
 st b_10 (o_11 + 5) (.int .i64 (IntKind.wrap .i64 (x_9 + 1))) <|
 Q (.bool false)) (
 nilck f0 fun b_12 o_13=>
 ld (.int .i64) b_12 (o_13 + 1) fun (x_14:Int)=>
 nilck f0 fun b_15 o_16=>
 st b_15 (o_16 + 1) (.int .i64 (IntKind.wrap .i64 (x_14 + 1))) <|
 nilck f0 fun b_17 o_18=>
 ld .slc b_17 o_18 fun (x_19:Sl)=>
 newB [.int .i64 1,.string key1] 117 fun b_20=>
 appendC 117 2 24 [.int .i64 0,.string str_empty] ⟨x_19.a,x_19.n,x_19.c⟩ 1 (fun w=>rdA w (some ⟨b_20,0,none⟩) (1 * 2)) fun s_21=>
 nilck f0 fun b_22 o_23=>
 st b_22 o_23 (.slice s_21.a s_21.n s_21.c) <|
 Q (.bool true))):=by kernel_rfl
theorem f41_ok:FnOk Tryz.prog 41 Tryz.f41:=⟨mixed,Tryz.func41,rfl⟩
def f42_kp:KP:=⟨[(11,[0,1,5]),(16,[])],[]⟩
noncomputable def f42_b (l:List Nat):Code:=cAtN l (bodyOf Tryz.f42)
def f42_r (Q:Value -> WP):Env -> WP:=retK Tryz.prog Tryz.f42 Q
def f42_e4 (jn:Jn) (Q:Value -> WP):Env -> WP:=seqK Tryz.prog f42_kp jn (f42_b [1,1,1]) (f42_r Q) noX (f42_r Q)
def f42_j2_c (jn:Jn) (Q:Value -> WP):Env -> WP:=codeI Tryz.prog f42_kp jn (f42_b [1,1,1]) (f42_r Q) noX (f42_r Q)
def f42_j2 (jn:Jn) (Q:Value -> WP):WP:=jn 16 (f42_j2_c jn Q ) (us 31 [])
def f42_l1 (jn:Jn) (Q:Value -> WP) (m1:Nat) (p0:Option Addr) (key1:ByteArray) (k5:Int):WP:=lop Tryz.prog f42_kp jn (f42_b [1,1,0,1,0,0]) (blkX 0 (f42_e4 jn Q) noX) (f42_r Q) m1 ((.pointer p0)::(.string key1)::us 3 ((.int .i64 k5)::us 25 []))
theorem f42_j2_raw {jn:Jn} {Q:Value -> WP}:f42_j2_c jn Q  (us 31 []) = (
 Q (.bool true)):=by kernel_rfl
theorem f42_l1_raw {jn:Jn} {Q:Value -> WP} {m1:Nat} {p0:Option Addr} {key1:ByteArray} {k5:Int}:f42_l1 jn Q  (m1 + 1) p0 key1 k5 = (
 nilck p0 fun b_5 o_6=>
 ld .slc b_5 (o_6 + 2) fun (x_7:Sl)=>
 ite2 (decide (k5 < (x_7.n:Int))) (
 nilck p0 fun b_8 o_9=>
 ld .slc b_8 (o_9 + 2) fun (x_10:Sl)=>
 idx x_10.a x_10.n k5 fun b_11 o_12=>
 ld .ptr b_11 (o_12 + (k5).toNat * 1) fun (x_13:Option Addr)=>
 call1 .bool Tryz.prog 75 [.pointer x_13,.string key1] fun (x_14:Bool)=>
 f42_l1 jn Q  m1 p0 key1 (IntKind.wrap .i64 (k5 + 1))) (
 f42_j2 jn Q  )):=by kernel_rfl
theorem f42_raw {jn:Jn} {p0:Option Addr} {key1:ByteArray} {Q:Value -> WP}:funJ jn Tryz.prog f42_kp Tryz.f42 [.pointer p0,.string key1] Q = (
 nilck p0 fun b_1 o_2=>
 ld .ptr b_1 o_2 fun (x_3:Option Addr)=>
 call1 .bool Tryz.prog 74 [.pointer x_3,.string key1] fun (x_4:Bool)=>
 ite2 (!x_4) (
 Q (.bool false)) (
 exM fun m=>f42_l1 jn Q  m p0 key1 0)):=by kernel_rfl
theorem f42_ok:FnOk Tryz.prog 42 Tryz.f42:=⟨mixed,Tryz.func42,rfl⟩
def f43_kp:KP:=⟨[(16,[0,1,2,3,4]),(22,[0,1,12])],[(12,[0,1,2,3,4,6]),(14,[1,2,3,4,5,6,8,11])]⟩
noncomputable def f43_b (l:List Nat):Code:=cAtN l (bodyOf Tryz.f43)
def f43_r (Q:Value -> WP):Env -> WP:=retK Tryz.prog Tryz.f43 Q
def f43_j2_c (jn:Jn) (Q:Value -> WP):Env -> WP:=codeI Tryz.prog f43_kp jn (f43_b [1,1,1,1]) (f43_r Q) noX (f43_r Q)
def f43_j2 (jn:Jn) (Q:Value -> WP) (t0:Option Addr) (key1:ByteArray) (e12_b e12_o:Nat):WP:=jn 22 (f43_j2_c jn Q ) ((.pointer t0)::(.string key1)::us 10 ((.pointer (some ⟨e12_b,e12_o,none⟩))::us 71 []))
def f43_j1_c (jn:Jn) (Q:Value -> WP):Env -> WP:=codeI Tryz.prog f43_kp jn (f43_b [1,1]) (f43_r Q) noX (f43_r Q)
def f43_j1 (jn:Jn) (Q:Value -> WP) (t0:Option Addr) (key1 val2:ByteArray) (now3 life4:Int):WP:=jn 16 (f43_j1_c jn Q ) ((.pointer t0)::(.string key1)::(.string val2)::(.int .i64 now3)::(.int .i64 life4)::us 79 [])
theorem f43_j2_raw {jn:Jn} {Q:Value -> WP} {t0:Option Addr} {key1:ByteArray} {e12_b e12_o:Nat}:f43_j2_c jn Q  ((.pointer t0)::(.string key1)::us 10 ((.pointer (some ⟨e12_b,e12_o,none⟩))::us 71 [])) = (
 call2 (.int .i64) .bool Tryz.prog 71 [.pointer t0,.string key1] fun (x_3:Int) (x_4:Bool)=>
 ite2 x_4 (
 drawW fun S=>
 nilck t0 fun b_5 o_6=>
 ldS S .slc b_5 o_6 fun (x_7:Sl)=>
 ld .str e12_b e12_o fun (x_8:ByteArray)=>
 ld .str e12_b (e12_o + 1) fun (x_9:ByteArray)=>
 ld (.int .i64) e12_b ((e12_o + 1) + 1) fun (x_10:Int)=>
 keepS true S <|
 idx x_7.a x_7.n x_3 fun b_11 o_12=>
 st b_11 (o_12 + (x_3).toNat * 3) (.string x_8) <|
 st b_11 ((o_12 + (x_3).toNat * 3) + 1) (.string x_9) <|
 st b_11 (((o_12 + (x_3).toNat * 3) + 1) + 1) (.int .i64 x_10) <|
 Q (.tuple #[.bool false,.int .i64 0])) (
 drawW fun S=>
 nilck t0 fun b_13 o_14=>
 ldS S .slc b_13 o_14 fun (x_15:Sl)=>
 when ((0:Int) <= x_3 /\ x_3 <= (x_15.c:Int)) <|
 ldS S .str e12_b e12_o fun (x_16:ByteArray)=>
 ldS S .str e12_b (e12_o + 1) fun (x_17:ByteArray)=>
 ldS S (.int .i64) e12_b ((e12_o + 1) + 1) fun (x_18:Int)=>
 allW [
 (newB [] 152 fun b_19=>
 keepS true S <|
 allW [
 (appendC 152 3 40 [.string str_empty,.string str_empty,.int .i64 0] ⟨(some ⟨b_19,0,none⟩),0,0⟩ ((x_3).toNat - 0) (fun w=>rdA w (subA x_15.a 0 x_15.c 3) (((x_3).toNat - 0) * 3)) fun s_20=>
 keepS true S <|
 newB [.string x_16,.string x_17,.int .i64 x_18] 152 fun b_21=>
 keepS true S <|
 appendC 152 3 40 [.string str_empty,.string str_empty,.int .i64 0] ⟨s_20.a,s_20.n,s_20.c⟩ 1 (fun w=>rdA w (some ⟨b_21,0,none⟩) (1 * 3)) fun s_22=>
 nilck t0 fun b_23 o_24=>
 ld .slc b_23 o_24 fun (x_25:Sl)=>
 when ((0:Int) <= x_3 /\ x_3 <= (x_25.n:Int)) <|
 appendC 152 3 40 [.string str_empty,.string str_empty,.int .i64 0] ⟨s_22.a,s_22.n,s_22.c⟩ (x_25.n - (x_3).toNat) (fun w=>rdA w (subA x_25.a ((x_3).toNat) x_25.c 3) ((x_25.n - (x_3).toNat) * 3)) fun s_26=>
 nilck t0 fun b_27 o_28=>
 st b_27 o_28 (.slice s_26.a s_26.n s_26.c) <|
 Q (.tuple #[.bool true,.int .i64 0])),
 (newB [.string x_16,.string x_17,.int .i64 x_18] 152 fun b_29=>
 keepS true S <|
 appendC 152 3 40 [.string str_empty,.string str_empty,.int .i64 0] ⟨(some ⟨b_19,0,none⟩),0,0⟩ ((x_3).toNat - 0) (fun w=>rdA w (subA x_15.a 0 x_15.c 3) (((x_3).toNat - 0) * 3)) fun s_30=>
 keepS true S <|
 appendC 152 3 40 [.string str_empty,.string str_empty,.int .i64 0] ⟨s_30.a,s_30.n,s_30.c⟩ 1 (fun w=>rdA w (some ⟨b_29,0,none⟩) (1 * 3)) fun s_31=>
 nilck t0 fun b_32 o_33=>
 ld .slc b_32 o_33 fun (x_34:Sl)=>
 when ((0:Int) <= x_3 /\ x_3 <= (x_34.n:Int)) <|
 appendC 152 3 40 [.string str_empty,.string str_empty,.int .i64 0] ⟨s_31.a,s_31.n,s_31.c⟩ (x_34.n - (x_3).toNat) (fun w=>rdA w (subA x_34.a ((x_3).toNat) x_34.c 3) ((x_34.n - (x_3).toNat) * 3)) fun s_35=>
 nilck t0 fun b_36 o_37=>
 st b_36 o_37 (.slice s_35.a s_35.n s_35.c) <|
 Q (.tuple #[.bool true,.int .i64 0]))]),
 (newB [.string x_16,.string x_17,.int .i64 x_18] 152 fun b_38=>
 keepS true S <|
 newB [] 152 fun b_39=>
 keepS true S <|
 appendC 152 3 40 [.string str_empty,.string str_empty,.int .i64 0] ⟨(some ⟨b_39,0,none⟩),0,0⟩ ((x_3).toNat - 0) (fun w=>rdA w (subA x_15.a 0 x_15.c 3) (((x_3).toNat - 0) * 3)) fun s_40=>
 keepS true S <|
 appendC 152 3 40 [.string str_empty,.string str_empty,.int .i64 0] ⟨s_40.a,s_40.n,s_40.c⟩ 1 (fun w=>rdA w (some ⟨b_38,0,none⟩) (1 * 3)) fun s_41=>
 nilck t0 fun b_42 o_43=>
 ld .slc b_42 o_43 fun (x_44:Sl)=>
 when ((0:Int) <= x_3 /\ x_3 <= (x_44.n:Int)) <|
 appendC 152 3 40 [.string str_empty,.string str_empty,.int .i64 0] ⟨s_41.a,s_41.n,s_41.c⟩ (x_44.n - (x_3).toNat) (fun w=>rdA w (subA x_44.a ((x_3).toNat) x_44.c 3) ((x_44.n - (x_3).toNat) * 3)) fun s_45=>
 nilck t0 fun b_46 o_47=>
 st b_46 o_47 (.slice s_45.a s_45.n s_45.c) <|
 Q (.tuple #[.bool true,.int .i64 0]))])):=by kernel_rfl
theorem f43_j1_raw {jn:Jn} {Q:Value -> WP} {t0:Option Addr} {key1 val2:ByteArray} {now3 life4:Int}:f43_j1_c jn Q  ((.pointer t0)::(.string key1)::(.string val2)::(.int .i64 now3)::(.int .i64 life4)::us 79 []) = (
 newB [.string str_empty,.string str_empty,.int .i64 0] 152 fun b_2=>
 st b_2 0 (.string key1) <|
 st b_2 1 (.string val2) <|
 st b_2 2 (.int .i64 0) <|
 ite2 (decide (life4 > 0)) (
 st b_2 2 (.int .i64 (IntKind.wrap .i64 (now3 + life4))) <|
 f43_j2 jn Q  t0 key1 b_2 0) (
 f43_j2 jn Q  t0 key1 b_2 0)):=by kernel_rfl
theorem f43_raw {jn:Jn} {t0:Option Addr} {key1 val2:ByteArray} {now3 life4:Int} {Q:Value -> WP}:funJ jn Tryz.prog f43_kp Tryz.f43 [.pointer t0,.string key1,.string val2,.int .i64 now3,.int .i64 life4] Q = (
 call1 .bool Tryz.prog 70 [.string key1] fun (x_1:Bool)=>
 ite2 (!x_1) (
 Q (.tuple #[.bool false,.int .i64 2])) (
 ite2 (decide ((val2.size:Int) > 64)) (
 Q (.tuple #[.bool false,.int .i64 3])) (
 ite2 (decide (now3 < 0)) (
 Q (.tuple #[.bool false,.int .i64 1])) (
 ite2 (decide (now3 > 1125899906842624)) (
 Q (.tuple #[.bool false,.int .i64 1])) (
 ite2 (decide (life4 < 0)) (
 Q (.tuple #[.bool false,.int .i64 1])) (
 ite2 (decide (life4 > 1099511627776)) (
 Q (.tuple #[.bool false,.int .i64 1])) (
 f43_j1 jn Q  t0 key1 val2 now3 life4))))))):=by kernel_rfl
theorem f43_ok:FnOk Tryz.prog 43 Tryz.f43:=⟨mixed,Tryz.func43,rfl⟩
def f44_kp:KP:=⟨[],[]⟩
theorem f44_raw {jn:Jn} {t0:Option Addr} {key1:ByteArray} {Q:Value -> WP}:funJ jn Tryz.prog f44_kp Tryz.f44 [.pointer t0,.string key1] Q = (
 call2 (.int .i64) .bool Tryz.prog 71 [.pointer t0,.string key1] fun (x_1:Int) (x_2:Bool)=>
 Q (.bool x_2)):=by kernel_rfl
theorem f44_ok:FnOk Tryz.prog 44 Tryz.f44:=⟨mixed,Tryz.func44,rfl⟩
def f45_kp:KP:=⟨[],[]⟩
theorem f45_raw {jn:Jn} {e0:Option Addr} {Q:Value -> WP}:funJ jn Tryz.prog f45_kp Tryz.f45 [.pointer e0] Q = (
 nilck e0 fun b_1 o_2=>
 ld (.int .i64) b_1 o_2 fun (x_3:Int)=>
 ite2 (x_3 == 0) (
 nilck e0 fun b_4 o_5=>
 ld .ptr b_4 (o_5 + 1) fun (x_6:Option Addr)=>
 call1 (.int .i64) Tryz.prog 76 [.pointer x_6] fun (x_7:Int)=>
 Q (.int .i64 x_7)) (
 ite2 (x_3 == 1) (
 nilck e0 fun b_8 o_9=>
 ld .ptr b_8 (o_9 + 2) fun (x_10:Option Addr)=>
 call1 (.int .i64) Tryz.prog 77 [.pointer x_10] fun (x_11:Int)=>
 Q (.int .i64 x_11)) (
 ite2 (x_3 == 2) (
 nilck e0 fun b_12 o_13=>
 ld .ptr b_12 (o_13 + 3) fun (x_14:Option Addr)=>
 call1 (.int .i64) Tryz.prog 78 [.pointer x_14] fun (x_15:Int)=>
 Q (.int .i64 x_15)) (
 ite2 (x_3 == 3) (
 nilck e0 fun b_16 o_17=>
 ld .ptr b_16 (o_17 + 4) fun (x_18:Option Addr)=>
 call1 (.int .i64) Tryz.prog 79 [.pointer x_18] fun (x_19:Int)=>
 Q (.int .i64 x_19)) (
 nilck e0 fun b_20 o_21=>
 ld .ptr b_20 (o_21 + 5) fun (x_22:Option Addr)=>
 call1 (.int .i64) Tryz.prog 80 [.pointer x_22] fun (x_23:Int)=>
 Q (.int .i64 x_23)))))):=by kernel_rfl
theorem f45_ok:FnOk Tryz.prog 45 Tryz.f45:=⟨mixed,Tryz.func45,rfl⟩
def f46_kp:KP:=⟨[],[]⟩
theorem f46_raw {jn:Jn} {s0:Option Addr} {kind1:Int} {key2:ByteArray} {Q:Value -> WP}:funJ jn Tryz.prog f46_kp Tryz.f46 [.pointer s0,.int .i64 kind1,.string key2] Q = (
 nilck s0 fun b_1 o_2=>
 ld .ptr b_1 (o_2 + 1) fun (x_3:Option Addr)=>
 call1 .bool Tryz.prog 81 [.pointer x_3,.int .i64 kind1,.string key2] fun (x_4:Bool)=>
 ite2 (!x_4) (
 call1 (.int .i64) Tryz.prog 47 [.pointer s0] fun (x_5:Int)=>
 nilck s0 fun b_6 o_7=>
 ld .ptr b_6 (o_7 + 1) fun (x_8:Option Addr)=>
 call1 .bool Tryz.prog 81 [.pointer x_8,.int .i64 kind1,.string key2] fun (x_9:Bool)=>
 Q (.tuple #[])) (
 Q (.tuple #[]))):=by kernel_rfl
theorem f46_ok:FnOk Tryz.prog 46 Tryz.f46:=⟨mixed,Tryz.func46,rfl⟩
def f47_kp:KP:=⟨[(9,[0,3,4]),(16,[3])],[(5,[0,1,2,3,4,5,6,7]),(6,[0,1,2,3,4,5,6,7,11,12])]⟩
noncomputable def f47_b (l:List Nat):Code:=cAtN l (bodyOf Tryz.f47)
def f47_r (Q:Value -> WP):Env -> WP:=retK Tryz.prog Tryz.f47 Q
def f47_e2 (jn:Jn) (Q:Value -> WP):Env -> WP:=seqK Tryz.prog f47_kp jn (f47_b [1,1,1]) (f47_r Q) noX (f47_r Q)
def f47_j2_c (jn:Jn) (Q:Value -> WP):Env -> WP:=codeI Tryz.prog f47_kp jn (f47_b [1,1,1]) (f47_r Q) noX (f47_r Q)
def f47_j2 (jn:Jn) (Q:Value -> WP) (l3:Sl):WP:=jn 16 (f47_j2_c jn Q ) (us 3 ((.slice l3.a l3.n l3.c)::us 38 []))
def f47_l1 (jn:Jn) (Q:Value -> WP) (m1:Nat) (s0:Option Addr) (l3:Sl) (i4:Int):WP:=lop Tryz.prog f47_kp jn (f47_b [1,1,0,1,0,0]) (blkX 0 (f47_e2 jn Q) noX) (f47_r Q) m1 ((.pointer s0)::us 2 ((.slice l3.a l3.n l3.c)::(.int .i64 i4)::us 37 []))
theorem f47_j2_raw {jn:Jn} {Q:Value -> WP} {l3:Sl}:f47_j2_c jn Q  (us 3 ((.slice l3.a l3.n l3.c)::us 38 [])) = (
 Q (.int .i64 (l3.n:Int))):=by kernel_rfl
theorem f47_l1_raw {jn:Jn} {Q:Value -> WP} {m1:Nat} {s0:Option Addr} {l3:Sl} {i4:Int}:f47_l1 jn Q  (m1 + 1) s0 l3 i4 = (
 ite2 (decide (i4 < (l3.n:Int))) (
 drawW fun S=>
 nilck s0 fun b_5 o_6=>
 ldS S .ptr b_5 (o_6 + 2) fun (x_7:Option Addr)=>
 idx l3.a l3.n i4 fun b_8 o_9=>
 ld (.int .i64) b_8 (o_9 + (i4).toNat * 2) fun (x_10:Int)=>
 ld .str b_8 ((o_9 + (i4).toNat * 2) + 1) fun (x_11:ByteArray)=>
 keepS true S <|
 call1 .slc Tryz.prog 83 [.pointer x_7,.agg #[.int .i64 x_10,.string x_11]] fun (x_12:Sl)=>
 call0 Tryz.prog 49 [.pointer s0,.slice x_12.a x_12.n x_12.c] <|
 drawW fun S=>
 nilck s0 fun b_13 o_14=>
 ldS S .slc b_13 (o_14 + 9) fun (x_15:Sl)=>
 idx l3.a l3.n i4 fun b_16 o_17=>
 ld (.int .i64) b_16 (o_17 + (i4).toNat * 2) fun (x_18:Int)=>
 ld .str b_16 ((o_17 + (i4).toNat * 2) + 1) fun (x_19:ByteArray)=>
 keepS true S <|
 newB [.int .i64 x_18,.string x_19] 117 fun b_20=>
 keepS true S <|
 appendC 117 2 24 [.int .i64 0,.string str_empty] ⟨x_15.a,x_15.n,x_15.c⟩ 1 (fun w=>rdA w (some ⟨b_20,0,none⟩) (1 * 2)) fun s_21=>
 nilck s0 fun b_22 o_23=>
 st b_22 (o_23 + 9) (.slice s_21.a s_21.n s_21.c) <|
 f47_l1 jn Q  m1 s0 l3 (IntKind.wrap .i64 (i4 + 1))) (
 f47_j2 jn Q  l3)):=by kernel_rfl
theorem f47_raw {jn:Jn} {s0:Option Addr} {Q:Value -> WP}:funJ jn Tryz.prog f47_kp Tryz.f47 [.pointer s0] Q = (
 nilck s0 fun b_1 o_2=>
 ld .ptr b_1 (o_2 + 1) fun (x_3:Option Addr)=>
 call1 .slc Tryz.prog 82 [.pointer x_3] fun (x_4:Sl)=>
 exM fun m=>f47_l1 jn Q  m s0 x_4 0):=by kernel_rfl
theorem f47_ok:FnOk Tryz.prog 47 Tryz.f47:=⟨mixed,Tryz.func47,rfl⟩
def f48_kp:KP:=⟨[(11,[0,1,5]),(12,[0,1,5]),(16,[0,1,5])],[(4,[0,2,3,4,5,7,8,9,11,12])]⟩
noncomputable def f48_b (l:List Nat):Code:=cAtN l (bodyOf Tryz.f48)
def f48_r (Q:Value -> WP):Env -> WP:=retK Tryz.prog Tryz.f48 Q
def f48_e5 (jn:Jn) (Q:Value -> WP):Env -> WP:=seqK Tryz.prog f48_kp jn (f48_b [1,1,1,1]) (f48_r Q) noX (f48_r Q)
def f48_e6 (jn:Jn) (Q:Value -> WP) (m1:Nat):Env -> WP:=lopK Tryz.prog f48_kp jn (f48_b [1,1,1,0,0,0]) (blkX 0 (f48_e5 jn Q) noX) (f48_r Q) m1
def f48_j2_c (jn:Jn) (Q:Value -> WP) (m1:Nat):Env -> WP:=codeI Tryz.prog f48_kp jn (f48_b [1,1,1,0,0,0,1]) (f48_e6 jn Q m1) (blkX 0 (f48_e5 jn Q) noX) (f48_r Q)
def f48_j2 (jn:Jn) (Q:Value -> WP) (m1:Nat) (m0:Option Addr) (key1:ByteArray) (l5:Sl):WP:=jn 12 (f48_j2_c jn Q m1) ((.pointer m0)::(.string key1)::us 3 ((.slice l5.a l5.n l5.c)::us 47 []))
def f48_j3_c (jn:Jn) (Q:Value -> WP):Env -> WP:=codeI Tryz.prog f48_kp jn (f48_b [1,1,1,1]) (f48_r Q) noX (f48_r Q)
def f48_j3 (jn:Jn) (Q:Value -> WP) (m0:Option Addr) (key1:ByteArray) (l5:Sl):WP:=jn 16 (f48_j3_c jn Q ) ((.pointer m0)::(.string key1)::us 3 ((.slice l5.a l5.n l5.c)::us 47 []))
def f48_l1 (jn:Jn) (Q:Value -> WP) (m1:Nat) (m0:Option Addr) (key1:ByteArray) (l5:Sl):WP:=lop Tryz.prog f48_kp jn (f48_b [1,1,1,0,0,0]) (blkX 0 (f48_e5 jn Q) noX) (f48_r Q) m1 ((.pointer m0)::(.string key1)::us 3 ((.slice l5.a l5.n l5.c)::us 47 []))
theorem f48_j2_raw {jn:Jn} {Q:Value -> WP} {m1:Nat} {m0:Option Addr} {key1:ByteArray} {l5:Sl}:f48_j2_c jn Q m1 ((.pointer m0)::(.string key1)::us 3 ((.slice l5.a l5.n l5.c)::us 47 [])) = (
 nilck m0 fun b_9 o_10=>
 ld .ptr b_9 (o_10 + 1) fun (x_11:Option Addr)=>
 call2 .str .bool Tryz.prog 88 [.pointer x_11] fun (x_12:ByteArray) (x_13:Bool)=>
 newB [.string x_12] 9 fun b_14=>
 appendC 9 1 16 [.string str_empty] ⟨l5.a,l5.n,l5.c⟩ 1 (fun w=>rdA w (some ⟨b_14,0,none⟩) (1 * 1)) fun s_15=>
 f48_l1 jn Q  m1 m0 key1 s_15):=by kernel_rfl
theorem f48_j3_raw {jn:Jn} {Q:Value -> WP} {m0:Option Addr} {key1:ByteArray} {l5:Sl}:f48_j3_c jn Q  ((.pointer m0)::(.string key1)::us 3 ((.slice l5.a l5.n l5.c)::us 47 [])) = (
 nilck m0 fun b_16 o_17=>
 ld .ptr b_16 o_17 fun (x_18:Option Addr)=>
 call2 .bool .slc Tryz.prog 89 [.pointer x_18,.string key1] fun (x_19:Bool) (x_20:Sl)=>
 appendC 9 1 16 [.string str_empty] ⟨l5.a,l5.n,l5.c⟩ x_20.n (fun w=>rdA w x_20.a (x_20.n * 1)) fun s_21=>
 Q (.slice s_21.a s_21.n s_21.c)):=by kernel_rfl
theorem f48_l1_raw {jn:Jn} {Q:Value -> WP} {m1:Nat} {m0:Option Addr} {key1:ByteArray} {l5:Sl}:f48_l1 jn Q  (m1 + 1) m0 key1 l5 = (
 drawW fun S=>
 nilck m0 fun b_3 o_4=>
 ldS S .ptr b_3 o_4 fun (x_5:Option Addr)=>
 call1 (.int .i64) Tryz.prog 86 [.pointer m0] fun (x_6:Int)=>
 keepS true S <|
 call1 (.int .i64) Tryz.prog 45 [.pointer x_5] fun (x_7:Int)=>
 ite2 (decide (x_6 >= x_7)) (
 call1 (.int .i64) Tryz.prog 87 [.pointer m0] fun (x_8:Int)=>
 ite2 (decide (x_8 > 0)) (
 f48_j2 jn Q m1 m0 key1 l5) (
 f48_j3 jn Q  m0 key1 l5)) (
 f48_j3 jn Q  m0 key1 l5)):=by kernel_rfl
theorem f48_raw {jn:Jn} {m0:Option Addr} {key1:ByteArray} {Q:Value -> WP}:funJ jn Tryz.prog f48_kp Tryz.f48 [.pointer m0,.string key1] Q = (
 call1 .bool Tryz.prog 84 [.pointer m0,.string key1] fun (x_1:Bool)=>
 ite2 x_1 (
 call1 .slc Tryz.prog 85 [.pointer m0,.string key1] fun (x_2:Sl)=>
 Q (.slice x_2.a x_2.n x_2.c)) (
 exM fun m=>f48_l1 jn Q  m m0 key1 ⟨none,0,0⟩)):=by kernel_rfl
theorem f48_ok:FnOk Tryz.prog 48 Tryz.f48:=⟨mixed,Tryz.func48,rfl⟩
def f49_kp:KP:=⟨[(5,[0,1,4])],[(3,[0,1,2,3,4,5,6])]⟩
noncomputable def f49_b (l:List Nat):Code:=cAtN l (bodyOf Tryz.f49)
def f49_r (Q:Value -> WP):Env -> WP:=retK Tryz.prog Tryz.f49 Q
def f49_l1 (jn:Jn) (Q:Value -> WP) (m1:Nat) (s0:Option Addr) (l1:Sl) (i4:Int):WP:=lop Tryz.prog f49_kp jn (f49_b [1,0,0]) (blkX 0 (f49_r Q) noX) (f49_r Q) m1 ((.pointer s0)::(.slice l1.a l1.n l1.c)::us 2 ((.int .i64 i4)::us 25 []))
theorem f49_l1_raw {jn:Jn} {Q:Value -> WP} {m1:Nat} {s0:Option Addr} {l1:Sl} {i4:Int}:f49_l1 jn Q  (m1 + 1) s0 l1 i4 = (
 ite2 (decide (i4 < (l1.n:Int))) (
 drawW fun S=>
 nilck s0 fun b_1 o_2=>
 ldS S .ptr b_1 o_2 fun (x_3:Option Addr)=>
 idx l1.a l1.n i4 fun b_4 o_5=>
 ld .str b_4 (o_5 + (i4).toNat * 1) fun (x_6:ByteArray)=>
 keepS true S <|
 call1 .bool Tryz.prog 50 [.pointer x_3,.string x_6] fun (x_7:Bool)=>
 ite2 x_7 (
 nilck s0 fun b_8 o_9=>
 ld (.int .i64) b_8 ((o_9 + 3) + 3) fun (x_10:Int)=>
 call1 (.int .i64) Tryz.prog 40 [.int .i64 x_10] fun (x_11:Int)=>
 nilck s0 fun b_12 o_13=>
 st b_12 ((o_13 + 3) + 3) (.int .i64 x_11) <|
 f49_l1 jn Q  m1 s0 l1 (IntKind.wrap .i64 (i4 + 1))) (
 f49_l1 jn Q  m1 s0 l1 (IntKind.wrap .i64 (i4 + 1)))) (
 Q (.tuple #[]))):=by kernel_rfl
theorem f49_raw {jn:Jn} {s0:Option Addr} {l1:Sl} {Q:Value -> WP}:funJ jn Tryz.prog f49_kp Tryz.f49 [.pointer s0,.slice l1.a l1.n l1.c] Q = (
 exM fun m=>f49_l1 jn Q  m s0 l1 0):=by kernel_rfl
theorem f49_ok:FnOk Tryz.prog 49 Tryz.f49:=⟨mixed,Tryz.func49,rfl⟩
def f50_kp:KP:=⟨[],[(3,[0,2,3,4,5,6,7,9,10,11,12,13,14,15,17,18])]⟩
theorem f50_raw {jn:Jn} {t0:Option Addr} {key1:ByteArray} {Q:Value -> WP}:funJ jn Tryz.prog f50_kp Tryz.f50 [.pointer t0,.string key1] Q = (
 call2 (.int .i64) .bool Tryz.prog 71 [.pointer t0,.string key1] fun (x_1:Int) (x_2:Bool)=>
 ite2 x_2 (
 drawW fun S=>
 nilck t0 fun b_3 o_4=>
 ldS S .slc b_3 o_4 fun (x_5:Sl)=>
 when ((0:Int) <= x_1 /\ x_1 <= (x_5.c:Int)) <|
 nilck t0 fun b_6 o_7=>
 ldS S .slc b_6 o_7 fun (x_8:Sl)=>
 when ((0:Int) <= (IntKind.wrap .i64 (x_1 + (1:Int))) /\ (IntKind.wrap .i64 (x_1 + (1:Int))) <= (x_8.n:Int)) <|
 newB [] 152 fun b_9=>
 keepS true S <|
 appendC 152 3 40 [.string str_empty,.string str_empty,.int .i64 0] ⟨(some ⟨b_9,0,none⟩),0,0⟩ ((x_1).toNat - 0) (fun w=>rdA w (subA x_5.a 0 x_5.c 3) (((x_1).toNat - 0) * 3)) fun s_10=>
 keepS true S <|
 appendC 152 3 40 [.string str_empty,.string str_empty,.int .i64 0] ⟨s_10.a,s_10.n,s_10.c⟩ (x_8.n - ((IntKind.wrap .i64 (x_1 + (1:Int)))).toNat) (fun w=>rdA w (subA x_8.a (((IntKind.wrap .i64 (x_1 + (1:Int)))).toNat) x_8.c 3) ((x_8.n - ((IntKind.wrap .i64 (x_1 + (1:Int)))).toNat) * 3)) fun s_11=>
 nilck t0 fun b_12 o_13=>
 st b_12 o_13 (.slice s_11.a s_11.n s_11.c) <|
 Q (.bool x_2)) (
 Q (.bool x_2))):=by kernel_rfl
theorem f50_ok:FnOk Tryz.prog 50 Tryz.f50:=⟨mixed,Tryz.func50,rfl⟩
def f51_kp:KP:=⟨[(8,[0,1]),(13,[0,1,5,6]),(18,[5])],[]⟩
noncomputable def f51_b (l:List Nat):Code:=cAtN l (bodyOf Tryz.f51)
def f51_r (Q:Value -> WP):Env -> WP:=retK Tryz.prog Tryz.f51 Q
def f51_e5 (jn:Jn) (Q:Value -> WP):Env -> WP:=seqK Tryz.prog f51_kp jn (f51_b [1,1,1,1]) (f51_r Q) noX (f51_r Q)
def f51_j3_c (jn:Jn) (Q:Value -> WP):Env -> WP:=codeI Tryz.prog f51_kp jn (f51_b [1,1,1,1]) (f51_r Q) noX (f51_r Q)
def f51_j3 (jn:Jn) (Q:Value -> WP) (l5:Sl):WP:=jn 18 (f51_j3_c jn Q ) (us 5 ((.slice l5.a l5.n l5.c)::us 27 []))
def f51_l2 (jn:Jn) (Q:Value -> WP) (m2:Nat) (s0:Option Addr) (now1:Int) (l5:Sl) (i6:Int):WP:=lop Tryz.prog f51_kp jn (f51_b [1,1,1,0,1,0,0]) (blkX 0 (f51_e5 jn Q) noX) (f51_r Q) m2 ((.pointer s0)::(.int .i64 now1)::us 3 ((.slice l5.a l5.n l5.c)::(.int .i64 i6)::us 26 []))
def f51_j1_c (jn:Jn) (Q:Value -> WP):Env -> WP:=codeI Tryz.prog f51_kp jn (f51_b [1,1]) (f51_r Q) noX (f51_r Q)
def f51_j1 (jn:Jn) (Q:Value -> WP) (s0:Option Addr) (now1:Int):WP:=jn 8 (f51_j1_c jn Q ) ((.pointer s0)::(.int .i64 now1)::us 31 [])
theorem f51_j3_raw {jn:Jn} {Q:Value -> WP} {l5:Sl}:f51_j3_c jn Q  (us 5 ((.slice l5.a l5.n l5.c)::us 27 [])) = (
 Q (.slice l5.a l5.n l5.c)):=by kernel_rfl
theorem f51_l2_raw {jn:Jn} {Q:Value -> WP} {m2:Nat} {s0:Option Addr} {now1:Int} {l5:Sl} {i6:Int}:f51_l2 jn Q  (m2 + 1) s0 now1 l5 i6 = (
 ite2 (decide (i6 < (l5.n:Int))) (
 idx l5.a l5.n i6 fun b_5 o_6=>
 ld .str b_5 (o_6 + (i6).toNat * 1) fun (x_7:ByteArray)=>
 call1 .slc Tryz.prog 38 [.pointer s0,.string x_7,.int .i64 now1] fun (x_8:Sl)=>
 f51_l2 jn Q  m2 s0 now1 l5 (IntKind.wrap .i64 (i6 + 1))) (
 f51_j3 jn Q  l5)):=by kernel_rfl
theorem f51_j1_raw {jn:Jn} {Q:Value -> WP} {s0:Option Addr} {now1:Int}:f51_j1_c jn Q  ((.pointer s0)::(.int .i64 now1)::us 31 []) = (
 nilck s0 fun b_1 o_2=>
 ld .ptr b_1 o_2 fun (x_3:Option Addr)=>
 call1 .slc Tryz.prog 90 [.pointer x_3,.int .i64 now1] fun (x_4:Sl)=>
 exM fun m=>f51_l2 jn Q  m s0 now1 x_4 0):=by kernel_rfl
theorem f51_raw {jn:Jn} {s0:Option Addr} {now1:Int} {Q:Value -> WP}:funJ jn Tryz.prog f51_kp Tryz.f51 [.pointer s0,.int .i64 now1] Q = (
 ite2 (decide (now1 < 0)) (
 Q (.slice none 0 0)) (
 ite2 (decide (now1 > 1125899906842624)) (
 Q (.slice none 0 0)) (
 f51_j1 jn Q  s0 now1))):=by kernel_rfl
theorem f51_ok:FnOk Tryz.prog 51 Tryz.f51:=⟨mixed,Tryz.func51,rfl⟩
def f52_kp:KP:=⟨[],[]⟩
theorem f52_raw {jn:Jn} {s0:Option Addr} {Q:Value -> WP}:funJ jn Tryz.prog f52_kp Tryz.f52 [.pointer s0] Q = (
 call1 (.int .i64) Tryz.prog 47 [.pointer s0] fun (x_1:Int)=>
 nilck s0 fun b_2 o_3=>
 ld .ptr b_2 (o_3 + 2) fun (x_4:Option Addr)=>
 call2 .str .bool Tryz.prog 91 [.pointer x_4] fun (x_5:ByteArray) (x_6:Bool)=>
 ite2 x_6 (
 nilck s0 fun b_7 o_8=>
 ld (.int .i64) b_7 ((o_8 + 3) + 5) fun (x_9:Int)=>
 call1 (.int .i64) Tryz.prog 40 [.int .i64 x_9] fun (x_10:Int)=>
 nilck s0 fun b_11 o_12=>
 st b_11 ((o_12 + 3) + 5) (.int .i64 x_10) <|
 Q (.tuple #[.string x_5,.bool x_6])) (
 Q (.tuple #[.string x_5,.bool x_6]))):=by kernel_rfl
theorem f52_ok:FnOk Tryz.prog 52 Tryz.f52:=⟨mixed,Tryz.func52,rfl⟩
def f53_kp:KP:=⟨[(11,[0,2,4,5,6]),(18,[2,4,5])],[(7,[0,1,2,3,4,5,7])]⟩
noncomputable def f53_b (l:List Nat):Code:=cAtN l (bodyOf Tryz.f53)
def f53_r (Q:Value -> WP):Env -> WP:=retK Tryz.prog Tryz.f53 Q
def f53_e3 (jn:Jn) (Q:Value -> WP):Env -> WP:=seqK Tryz.prog f53_kp jn (f53_b [1,1,1,1]) (f53_r Q) noX (f53_r Q)
def f53_j2_c (jn:Jn) (Q:Value -> WP):Env -> WP:=codeI Tryz.prog f53_kp jn (f53_b [1,1,1,1]) (f53_r Q) noX (f53_r Q)
def f53_j2 (jn:Jn) (Q:Value -> WP) (t2_b t2_o g4_b g4_o:Nat) (all5:Int):WP:=jn 18 (f53_j2_c jn Q ) (us 2 ((.pointer (some ⟨t2_b,t2_o,none⟩))::us 1 ((.pointer (some ⟨g4_b,g4_o,none⟩))::(.int .i64 all5)::us 27 [])))
def f53_l1 (jn:Jn) (Q:Value -> WP) (m1:Nat) (p0:Option Addr) (t2_b t2_o g4_b g4_o:Nat) (all5 k6:Int):WP:=lop Tryz.prog f53_kp jn (f53_b [1,1,1,0,1,0,0]) (blkX 0 (f53_e3 jn Q) noX) (f53_r Q) m1 ((.pointer p0)::us 1 ((.pointer (some ⟨t2_b,t2_o,none⟩))::us 1 ((.pointer (some ⟨g4_b,g4_o,none⟩))::(.int .i64 all5)::(.int .i64 k6)::us 26 [])))
theorem f53_j2_raw {jn:Jn} {Q:Value -> WP} {t2_b t2_o g4_b g4_o:Nat} {all5:Int}:f53_j2_c jn Q  (us 2 ((.pointer (some ⟨t2_b,t2_o,none⟩))::us 1 ((.pointer (some ⟨g4_b,g4_o,none⟩))::(.int .i64 all5)::us 27 []))) = (
 ld (.int .i64) g4_b g4_o fun (x_18:Int)=>
 ld (.int .i64) g4_b (g4_o + 1) fun (x_19:Int)=>
 ld (.int .i64) g4_b ((g4_o + 1) + 1) fun (x_20:Int)=>
 ld (.int .i64) g4_b (((g4_o + 1) + 1) + 1) fun (x_21:Int)=>
 ld (.int .i64) g4_b ((((g4_o + 1) + 1) + 1) + 1) fun (x_22:Int)=>
 st t2_b t2_o (.int .i64 x_18) <|
 st t2_b (t2_o + 1) (.int .i64 x_19) <|
 st t2_b ((t2_o + 1) + 1) (.int .i64 x_20) <|
 st t2_b (((t2_o + 1) + 1) + 1) (.int .i64 x_21) <|
 st t2_b ((((t2_o + 1) + 1) + 1) + 1) (.int .i64 x_22) <|
 ld (.int .i64) t2_b t2_o fun (x_23:Int)=>
 ld (.int .i64) t2_b (t2_o + 1) fun (x_24:Int)=>
 ld (.int .i64) t2_b ((t2_o + 1) + 1) fun (x_25:Int)=>
 ld (.int .i64) t2_b (((t2_o + 1) + 1) + 1) fun (x_26:Int)=>
 ld (.int .i64) t2_b ((((t2_o + 1) + 1) + 1) + 1) fun (x_27:Int)=>
 Q (.tuple #[.agg #[.int .i64 x_23,.int .i64 x_24,.int .i64 x_25,.int .i64 x_26,.int .i64 x_27],.int .i64 all5])):=by kernel_rfl
theorem f53_l1_raw {jn:Jn} {Q:Value -> WP} {m1:Nat} {p0:Option Addr} {t2_b t2_o g4_b g4_o:Nat} {all5 k6:Int}:f53_l1 jn Q  (m1 + 1) p0 t2_b t2_o g4_b g4_o all5 k6 = (
 nilck p0 fun b_3 o_4=>
 ld .slc b_3 (o_4 + 2) fun (x_5:Sl)=>
 ite2 (decide (k6 < (x_5.n:Int))) (
 nilck p0 fun b_6 o_7=>
 ld .slc b_6 (o_7 + 2) fun (x_8:Sl)=>
 idx x_8.a x_8.n k6 fun b_9 o_10=>
 ld .ptr b_9 (o_10 + (k6).toNat * 1) fun (x_11:Option Addr)=>
 fun w=>Calls Tryz.prog 92 #[.pointer x_11] w fun e w'=>∃ x_12:Int,∃ x_13:Int,∃ x_14:Int,e = .returned (.agg #[.int .i64 x_12,.int .i64 x_13,.int .i64 x_14]) /\ (
 newB [.int .i64 0,.int .i64 0,.int .i64 0] 167 fun b_15=>
 st b_15 0 (.int .i64 x_12) <|
 st b_15 1 (.int .i64 x_13) <|
 st b_15 2 (.int .i64 x_14) <|
 drawW fun S=>
 ldS S (.int .i64) b_15 2 fun (x_16:Int)=>
 ldS S (.int .i64) b_15 0 fun (x_17:Int)=>
 when ((0:Int) <= k6 /\ k6 < ((5:Nat):Int)) <|
 st g4_b (g4_o + (k6).toNat * 1) (.int .i64 x_16) <|
 keepS true S <|
 f53_l1 jn Q  m1 p0 t2_b t2_o g4_b g4_o x_17 (IntKind.wrap .i64 (k6 + 1))) w') (
 f53_j2 jn Q  t2_b t2_o g4_b g4_o all5)):=by kernel_rfl
theorem f53_raw {jn:Jn} {p0:Option Addr} {Q:Value -> WP}:funJ jn Tryz.prog f53_kp Tryz.f53 [.pointer p0] Q = (
 newB [.int .i64 0,.int .i64 0,.int .i64 0,.int .i64 0,.int .i64 0] 121 fun b_1=>
 newB [.int .i64 0,.int .i64 0,.int .i64 0,.int .i64 0,.int .i64 0] 121 fun b_2=>
 exM fun m=>f53_l1 jn Q  m p0 b_1 0 b_2 0 0 0):=by kernel_rfl
theorem f53_ok:FnOk Tryz.prog 53 Tryz.f53:=⟨mixed,Tryz.func53,rfl⟩
def f54_kp:KP:=⟨[(20,[0,8])],[(1,[0,1,2,3,4,6,8,9]),(2,[0,1,2,3,4,5,6,10]),(9,[0,1,2,3,4,5,6,8])]⟩
noncomputable def f54_b (l:List Nat):Code:=cAtN l (bodyOf Tryz.f54)
def f54_r (Q:Value -> WP):Env -> WP:=retK Tryz.prog Tryz.f54 Q
def f54_j1_c (jn:Jn) (Q:Value -> WP):Env -> WP:=codeI Tryz.prog f54_kp jn (f54_b [1,1,1,1]) (f54_r Q) noX (f54_r Q)
def f54_j1 (jn:Jn) (Q:Value -> WP) (c0:Option Addr) (k8:Int):WP:=jn 20 (f54_j1_c jn Q ) ((.pointer c0)::us 7 ((.int .i64 k8)::us 74 []))
theorem f54_j1_raw {jn:Jn} {Q:Value -> WP} {c0:Option Addr} {k8:Int}:f54_j1_c jn Q  ((.pointer c0)::us 7 ((.int .i64 k8)::us 74 [])) = (
 drawW fun S=>
 nilck c0 fun b_48 o_49=>
 ldS S (.int .i64) b_48 (o_49 + 7) fun (x_50:Int)=>
 nilck c0 fun b_51 o_52=>
 ld (.int .i64) b_51 (o_52 + 8) fun (x_53:Int)=>
 keepS true S <|
 ite2 (decide (x_50 < x_53)) (
 Q (.tuple #[.int .i64 k8,.bool false])) (
 nilck c0 fun b_54 o_55=>
 st b_54 o_55 (.int .i64 k8) <|
 nilck c0 fun b_56 o_57=>
 st b_56 (o_57 + 7) (.int .i64 0) <|
 Q (.tuple #[.int .i64 k8,.bool true]))):=by kernel_rfl
theorem f54_raw {jn:Jn} {c0:Option Addr} {ghosts1_0 ghosts1_1 ghosts1_2 ghosts1_3 ghosts1_4 all2:Int} {Q:Value -> WP}:funJ jn Tryz.prog f54_kp Tryz.f54 [.pointer c0,.agg #[.int .i64 ghosts1_0,.int .i64 ghosts1_1,.int .i64 ghosts1_2,.int .i64 ghosts1_3,.int .i64 ghosts1_4],.int .i64 all2] Q = (
 newB [.int .i64 ghosts1_0,.int .i64 ghosts1_1,.int .i64 ghosts1_2,.int .i64 ghosts1_3,.int .i64 ghosts1_4] 121 fun b_1=>
 drawW fun S=>
 nilck c0 fun b_2 o_3=>
 ldS S (.int .u64) b_2 (o_3 + 1) fun (x_4:Int)=>
 ldS S (.int .u64) b_2 ((o_3 + 1) + 1) fun (x_5:Int)=>
 ldS S (.int .u64) b_2 (((o_3 + 1) + 1) + 1) fun (x_6:Int)=>
 ldS S (.int .u64) b_2 ((((o_3 + 1) + 1) + 1) + 1) fun (x_7:Int)=>
 ldS S (.int .u64) b_2 (((((o_3 + 1) + 1) + 1) + 1) + 1) fun (x_8:Int)=>
 ld (.int .i64) b_1 0 fun (x_9:Int)=>
 ld (.int .i64) b_1 1 fun (x_10:Int)=>
 ld (.int .i64) b_1 2 fun (x_11:Int)=>
 ld (.int .i64) b_1 3 fun (x_12:Int)=>
 ld (.int .i64) b_1 4 fun (x_13:Int)=>
 keepS true S <|
 fun w=>Calls Tryz.prog 93 #[.agg #[.int .u64 x_4,.int .u64 x_5,.int .u64 x_6,.int .u64 x_7,.int .u64 x_8],.agg #[.int .i64 x_9,.int .i64 x_10,.int .i64 x_11,.int .i64 x_12,.int .i64 x_13],.int .i64 all2] w fun e w'=>∃ x_14:Int,∃ x_15:Int,∃ x_16:Int,∃ x_17:Int,∃ x_18:Int,e = .returned (.agg #[.int .u64 x_14,.int .u64 x_15,.int .u64 x_16,.int .u64 x_17,.int .u64 x_18]) /\ (
 nilck c0 fun b_19 o_20=>
 st b_19 (o_20 + 1) (.int .u64 x_14) <|
 st b_19 ((o_20 + 1) + 1) (.int .u64 x_15) <|
 st b_19 (((o_20 + 1) + 1) + 1) (.int .u64 x_16) <|
 st b_19 ((((o_20 + 1) + 1) + 1) + 1) (.int .u64 x_17) <|
 st b_19 (((((o_20 + 1) + 1) + 1) + 1) + 1) (.int .u64 x_18) <|
 drawW fun S=>
 nilck c0 fun b_21 o_22=>
 ldS S (.int .u64) b_21 (o_22 + 1) fun (x_23:Int)=>
 ldS S (.int .u64) b_21 ((o_22 + 1) + 1) fun (x_24:Int)=>
 ldS S (.int .u64) b_21 (((o_22 + 1) + 1) + 1) fun (x_25:Int)=>
 ldS S (.int .u64) b_21 ((((o_22 + 1) + 1) + 1) + 1) fun (x_26:Int)=>
 ldS S (.int .u64) b_21 (((((o_22 + 1) + 1) + 1) + 1) + 1) fun (x_27:Int)=>
 nilck c0 fun b_28 o_29=>
 ld .ptr b_28 (o_29 + 9) fun (x_30:Option Addr)=>
 keepS true S <|
 call1 (.int .u32) Tryz.prog 95 [.pointer x_30] fun (x_31:Int)=>
 keepS true S <|
 call1 (.int .i64) Tryz.prog 94 [.agg #[.int .u64 x_23,.int .u64 x_24,.int .u64 x_25,.int .u64 x_26,.int .u64 x_27],.int .u32 x_31] fun (x_32:Int)=>
 nilck c0 fun b_33 o_34=>
 ld (.int .i64) b_33 o_34 fun (x_35:Int)=>
 ite2 (x_32 == x_35) (
 nilck c0 fun b_36 o_37=>
 st b_36 (o_37 + 6) (.int .i64 x_32) <|
 nilck c0 fun b_38 o_39=>
 st b_38 (o_39 + 7) (.int .i64 0) <|
 Q (.tuple #[.int .i64 x_32,.bool false])) (
 nilck c0 fun b_40 o_41=>
 ld (.int .i64) b_40 (o_41 + 6) fun (x_42:Int)=>
 ite2 (x_32 == x_42) (
 nilck c0 fun b_43 o_44=>
 ld (.int .i64) b_43 (o_44 + 7) fun (x_45:Int)=>
 nilck c0 fun b_46 o_47=>
 st b_46 (o_47 + 7) (.int .i64 (IntKind.wrap .i64 (x_45 + 1))) <|
 f54_j1 jn Q  c0 x_32) (
 nilck c0 fun b_58 o_59=>
 st b_58 (o_59 + 6) (.int .i64 x_32) <|
 nilck c0 fun b_60 o_61=>
 st b_60 (o_61 + 7) (.int .i64 1) <|
 f54_j1 jn Q  c0 x_32))) w'):=by kernel_rfl
theorem f54_ok:FnOk Tryz.prog 54 Tryz.f54:=⟨mixed,Tryz.func54,rfl⟩
def f55_kp:KP:=⟨[],[]⟩
theorem f55_raw {jn:Jn} {kind0:Int} {Q:Value -> WP}:funJ jn Tryz.prog f55_kp Tryz.f55 [.int .i64 kind0] Q = (
 ite2 (kind0 == 0) (
 Q (.string str_arc)) (
 ite2 (kind0 == 1) (
 Q (.string str_lirs)) (
 ite2 (kind0 == 2) (
 Q (.string str_2q)) (
 ite2 (kind0 == 3) (
 Q (.string str_tinylfu)) (
 ite2 (kind0 == 4) (
 Q (.string str_s3fifo)) (
 Q (.string str_empty))))))):=by kernel_rfl
theorem f55_ok:FnOk Tryz.prog 55 Tryz.f55:=⟨mixed,Tryz.func55,rfl⟩
def f56_kp:KP:=⟨[(6,[0,1,5]),(12,[0,1])],[]⟩
noncomputable def f56_b (l:List Nat):Code:=cAtN l (bodyOf Tryz.f56)
def f56_r (Q:Value -> WP):Env -> WP:=retK Tryz.prog Tryz.f56 Q
def f56_e1 (jn:Jn) (Q:Value -> WP):Env -> WP:=seqK Tryz.prog f56_kp jn (f56_b [1,1]) (f56_r Q) noX (f56_r Q)
def f56_j2_c (jn:Jn) (Q:Value -> WP):Env -> WP:=codeI Tryz.prog f56_kp jn (f56_b [1,1]) (f56_r Q) noX (f56_r Q)
def f56_j2 (jn:Jn) (Q:Value -> WP) (s0:Option Addr) (kind1:Int):WP:=jn 12 (f56_j2_c jn Q ) ((.pointer s0)::(.int .i64 kind1)::us 31 [])
def f56_j1_c (jn:Jn) (Q:Value -> WP):Env -> WP:=codeI Tryz.prog f56_kp jn (f56_b [1,0,0,1]) (f56_e1 jn Q) (blkX 0 (f56_e1 jn Q) noX) (f56_r Q)
def f56_j1 (jn:Jn) (Q:Value -> WP) (s0:Option Addr) (kind1:Int) (t5:Bool):WP:=jn 6 (f56_j1_c jn Q ) ((.pointer s0)::(.int .i64 kind1)::us 3 ((.bool t5)::us 27 []))
theorem f56_j2_raw {jn:Jn} {Q:Value -> WP} {s0:Option Addr} {kind1:Int}:f56_j2_c jn Q  ((.pointer s0)::(.int .i64 kind1)::us 31 []) = (
 call1 (.int .i64) Tryz.prog 47 [.pointer s0] fun (x_10:Int)=>
 nilck s0 fun b_11 o_12=>
 ld .ptr b_11 (o_12 + 2) fun (x_13:Option Addr)=>
 call1 (.int .i64) Tryz.prog 96 [.pointer x_13,.int .i64 kind1] fun (x_14:Int)=>
 Q (.int .i64 x_14)):=by kernel_rfl
theorem f56_j1_raw {jn:Jn} {Q:Value -> WP} {s0:Option Addr} {kind1:Int} {t5:Bool}:f56_j1_c jn Q  ((.pointer s0)::(.int .i64 kind1)::us 3 ((.bool t5)::us 27 [])) = (
 ite2 t5 (
 Q (.int .i64 4)) (
 nilck s0 fun b_1 o_2=>
 ld .ptr b_1 (o_2 + 2) fun (x_3:Option Addr)=>
 nilck x_3 fun b_4 o_5=>
 ld .ptr b_4 o_5 fun (x_6:Option Addr)=>
 nilck x_6 fun b_7 o_8=>
 ld (.int .i64) b_7 o_8 fun (x_9:Int)=>
 ite2 (kind1 == x_9) (
 Q (.int .i64 8)) (
 f56_j2 jn Q  s0 kind1))):=by kernel_rfl
theorem f56_raw {jn:Jn} {s0:Option Addr} {kind1:Int} {Q:Value -> WP}:funJ jn Tryz.prog f56_kp Tryz.f56 [.pointer s0,.int .i64 kind1] Q = (
 ite2 (decide (kind1 < 0)) (
 f56_j1 jn Q  s0 kind1 true) (
 f56_j1 jn Q  s0 kind1 (decide (kind1 >= 5)))):=by kernel_rfl
theorem f56_ok:FnOk Tryz.prog 56 Tryz.f56:=⟨mixed,Tryz.func56,rfl⟩
def f57_kp:KP:=⟨[(8,[0,1])],[]⟩
noncomputable def f57_b (l:List Nat):Code:=cAtN l (bodyOf Tryz.f57)
def f57_r (Q:Value -> WP):Env -> WP:=retK Tryz.prog Tryz.f57 Q
def f57_j1_c (jn:Jn) (Q:Value -> WP):Env -> WP:=codeI Tryz.prog f57_kp jn (f57_b [1,1]) (f57_r Q) noX (f57_r Q)
def f57_j1 (jn:Jn) (Q:Value -> WP) (s0:Option Addr) (room1:Int):WP:=jn 8 (f57_j1_c jn Q ) ((.pointer s0)::(.int .i64 room1)::us 23 [])
theorem f57_j1_raw {jn:Jn} {Q:Value -> WP} {s0:Option Addr} {room1:Int}:f57_j1_c jn Q  ((.pointer s0)::(.int .i64 room1)::us 23 []) = (
 call1 (.int .i64) Tryz.prog 47 [.pointer s0] fun (x_1:Int)=>
 nilck s0 fun b_2 o_3=>
 ld .ptr b_2 (o_3 + 2) fun (x_4:Option Addr)=>
 call1 .slc Tryz.prog 97 [.pointer x_4,.int .i64 room1] fun (x_5:Sl)=>
 call0 Tryz.prog 49 [.pointer s0,.slice x_5.a x_5.n x_5.c] <|
 Q (.tuple #[.slice x_5.a x_5.n x_5.c,.int .i64 0])):=by kernel_rfl
theorem f57_raw {jn:Jn} {s0:Option Addr} {room1:Int} {Q:Value -> WP}:funJ jn Tryz.prog f57_kp Tryz.f57 [.pointer s0,.int .i64 room1] Q = (
 ite2 (decide (room1 < 1)) (
 Q (.tuple #[.slice none 0 0,.int .i64 1])) (
 ite2 (decide (room1 > 1024)) (
 Q (.tuple #[.slice none 0 0,.int .i64 1])) (
 f57_j1 jn Q  s0 room1))):=by kernel_rfl
theorem f57_ok:FnOk Tryz.prog 57 Tryz.f57:=⟨mixed,Tryz.func57,rfl⟩
def f58_kp:KP:=⟨[],[]⟩
theorem f58_raw {jn:Jn} {kind0 room1:Int} {Q:Value -> WP}:funJ jn Tryz.prog f58_kp Tryz.f58 [.int .i64 kind0,.int .i64 room1] Q = (
 newB [.int .i64 kind0,.pointer none,.pointer none,.pointer none,.pointer none,.pointer none] 160 fun b_1=>
 ite2 (kind0 == 0) (
 call1 .ptr Tryz.prog 98 [.int .i64 room1] fun (x_2:Option Addr)=>
 nilck (some ⟨b_1,0,none⟩) fun b_3 o_4=>
 st b_3 (o_4 + 1) (.pointer x_2) <|
 Q (.tuple #[.pointer (some ⟨b_1,0,none⟩),.int .i64 0])) (
 ite2 (kind0 == 1) (
 call1 .ptr Tryz.prog 99 [.int .i64 room1] fun (x_5:Option Addr)=>
 nilck (some ⟨b_1,0,none⟩) fun b_6 o_7=>
 st b_6 (o_7 + 2) (.pointer x_5) <|
 Q (.tuple #[.pointer (some ⟨b_1,0,none⟩),.int .i64 0])) (
 ite2 (kind0 == 2) (
 call1 .ptr Tryz.prog 100 [.int .i64 room1] fun (x_8:Option Addr)=>
 nilck (some ⟨b_1,0,none⟩) fun b_9 o_10=>
 st b_9 (o_10 + 3) (.pointer x_8) <|
 Q (.tuple #[.pointer (some ⟨b_1,0,none⟩),.int .i64 0])) (
 ite2 (kind0 == 3) (
 call1 .ptr Tryz.prog 101 [.int .i64 room1] fun (x_11:Option Addr)=>
 nilck (some ⟨b_1,0,none⟩) fun b_12 o_13=>
 st b_12 (o_13 + 4) (.pointer x_11) <|
 Q (.tuple #[.pointer (some ⟨b_1,0,none⟩),.int .i64 0])) (
 ite2 (kind0 == 4) (
 call1 .ptr Tryz.prog 102 [.int .i64 room1] fun (x_14:Option Addr)=>
 nilck (some ⟨b_1,0,none⟩) fun b_15 o_16=>
 st b_15 (o_16 + 5) (.pointer x_14) <|
 Q (.tuple #[.pointer (some ⟨b_1,0,none⟩),.int .i64 0])) (
 Q (.tuple #[.pointer none,.int .i64 4]))))))):=by kernel_rfl
theorem f58_ok:FnOk Tryz.prog 58 Tryz.f58:=⟨mixed,Tryz.func58,rfl⟩
def f59_kp:KP:=⟨[],[]⟩
theorem f59_raw {jn:Jn} {n0 low1 high2:Int} {Q:Value -> WP}:funJ jn Tryz.prog f59_kp Tryz.f59 [.int .i64 n0,.int .i64 low1,.int .i64 high2] Q = (
 Q (.int .i64 (if high2 < (if low1 > n0 then low1 else n0) then high2 else (if low1 > n0 then low1 else n0)))):=by kernel_rfl
theorem f59_ok:FnOk Tryz.prog 59 Tryz.f59:=⟨mixed,Tryz.func59,rfl⟩
def f60_kp:KP:=⟨[],[(1,[0,2,3,4,5,6,7,8,9])]⟩
theorem f60_raw {jn:Jn} {s0:Option Addr} {c1:Int} {Q:Value -> WP}:funJ jn Tryz.prog f60_kp Tryz.f60 [.pointer s0,.int .i64 c1] Q = (
 drawW fun S=>
 nilck s0 fun b_1 o_2=>
 ldS S (.int .i64) b_1 o_2 fun (x_3:Int)=>
 call1 (.int .i64) Tryz.prog 59 [.int .i64 c1,.int .i64 0,.int .i64 1024] fun (x_4:Int)=>
 keepS true S <|
 when ((16777216:Int) ≠ 0) <|
 Q (.int .i64 (if (IntKind.wrap .i64 (Int.tdiv (IntKind.wrap .i64 (x_4 * x_3)) 16777216)) > 1 then (IntKind.wrap .i64 (Int.tdiv (IntKind.wrap .i64 (x_4 * x_3)) 16777216)) else 1))):=by kernel_rfl
theorem f60_ok:FnOk Tryz.prog 60 Tryz.f60:=⟨mixed,Tryz.func60,rfl⟩
def f61_kp:KP:=⟨[],[]⟩
theorem f61_raw {jn:Jn} {kind0 room1:Int} {Q:Value -> WP}:funJ jn Tryz.prog f61_kp Tryz.f61 [.int .i64 kind0,.int .i64 room1] Q = (
 call2 .ptr (.int .i64) Tryz.prog 58 [.int .i64 kind0,.int .i64 room1] fun (x_1:Option Addr) (x_2:Int)=>
 ite2 (x_2 != 0) (
 Q (.tuple #[.pointer none,.int .i64 x_2])) (
 call1 .ptr Tryz.prog 103 [.int .i64 room1] fun (x_3:Option Addr)=>
 newB [.pointer x_1,.pointer x_3,.int .i64 0,.int .i64 0,.int .i64 0,.int .i64 0,.int .i64 0,.int .i64 0] 181 fun b_4=>
 Q (.tuple #[.pointer (some ⟨b_4,0,none⟩),.int .i64 0]))):=by kernel_rfl
theorem f61_ok:FnOk Tryz.prog 61 Tryz.f61:=⟨mixed,Tryz.func61,rfl⟩
def f62_kp:KP:=⟨[],[]⟩
theorem f62_raw {jn:Jn} {seed0:Int} {Q:Value -> WP}:funJ jn Tryz.prog f62_kp Tryz.f62 [.int .u64 seed0] Q = (
 makeC 219 48 [.int .i64 0,.string str_empty,.string str_empty,.int .i64 0] 8 8 fun s_1=>
 newB [.int .u64 seed0,.slice s_1.a s_1.n s_1.c,.int .i64 0,.int .i64 0] 184 fun b_2=>
 Q (.pointer (some ⟨b_2,0,none⟩))):=by kernel_rfl
theorem f62_ok:FnOk Tryz.prog 62 Tryz.f62:=⟨mixed,Tryz.func62,rfl⟩
def f63_kp:KP:=⟨[],[]⟩
theorem f63_raw {jn:Jn} {t0:Option Addr} {key1:ByteArray} {now2:Int} {Q:Value -> WP}:funJ jn Tryz.prog f63_kp Tryz.f63 [.pointer t0,.string key1,.int .i64 now2] Q = (
 ite2 (Option.isNone t0) (
 Q (.tuple #[.string str_empty,.bool false])) (
 nilck t0 fun b_1 o_2=>
 ld .ptr b_1 o_2 fun (x_3:Option Addr)=>
 fun w=>Calls Tryz.prog 104 #[.pointer x_3,.string key1] w fun e w'=>∃ x_4:ByteArray,∃ x_5:Int,∃ x_6:Bool,e = .returned (.tuple #[.agg #[.string x_4,.int .i64 x_5],.bool x_6]) /\ (
 newB [.string str_empty,.int .i64 0] 141 fun b_7=>
 st b_7 0 (.string x_4) <|
 st b_7 1 (.int .i64 x_5) <|
 ite2 (!x_6) (
 Q (.tuple #[.string str_empty,.bool false])) (
 ld .str b_7 0 fun (x_8:ByteArray)=>
 ld (.int .i64) b_7 1 fun (x_9:Int)=>
 call1 .bool Tryz.prog 105 [.agg #[.string x_8,.int .i64 x_9],.int .i64 now2] fun (x_10:Bool)=>
 ite2 x_10 (
 Q (.tuple #[.string str_empty,.bool false])) (
 ld .str b_7 0 fun (x_11:ByteArray)=>
 Q (.tuple #[.string x_11,.bool true])))) w')):=by kernel_rfl
theorem f63_ok:FnOk Tryz.prog 63 Tryz.f63:=⟨mixed,Tryz.func63,rfl⟩
def f64_kp:KP:=⟨[],[]⟩
theorem f64_raw {jn:Jn} {t0:Option Addr} {key1:ByteArray} {Q:Value -> WP}:funJ jn Tryz.prog f64_kp Tryz.f64 [.pointer t0,.string key1] Q = (
 ite2 (Option.isNone t0) (
 Q (.bool false)) (
 nilck t0 fun b_1 o_2=>
 ld .ptr b_1 o_2 fun (x_3:Option Addr)=>
 fun w=>Calls Tryz.prog 104 #[.pointer x_3,.string key1] w fun e w'=>∃ x_4:ByteArray,∃ x_5:Int,∃ x_6:Bool,e = .returned (.tuple #[.agg #[.string x_4,.int .i64 x_5],.bool x_6]) /\ (
 newB [.string str_empty,.int .i64 0] 141 fun b_7=>
 st b_7 0 (.string x_4) <|
 st b_7 1 (.int .i64 x_5) <|
 Q (.bool x_6)) w')):=by kernel_rfl
theorem f64_ok:FnOk Tryz.prog 64 Tryz.f64:=⟨mixed,Tryz.func64,rfl⟩
def f65_kp:KP:=⟨[],[]⟩
theorem f65_raw {jn:Jn} {t0:Option Addr} {key1:ByteArray} {Q:Value -> WP}:funJ jn Tryz.prog f65_kp Tryz.f65 [.pointer t0,.string key1] Q = (
 ite2 (Option.isNone t0) (
 Q (.bool false)) (
 nilck t0 fun b_1 o_2=>
 ld .ptr b_1 o_2 fun (x_3:Option Addr)=>
 fun w=>Calls Tryz.prog 106 #[.pointer x_3,.string key1] w fun e w'=>∃ x_4:ByteArray,∃ x_5:Int,∃ x_6:Bool,e = .returned (.tuple #[.agg #[.string x_4,.int .i64 x_5],.bool x_6]) /\ (
 newB [.string str_empty,.int .i64 0] 141 fun b_7=>
 st b_7 0 (.string x_4) <|
 st b_7 1 (.int .i64 x_5) <|
 Q (.bool x_6)) w')):=by kernel_rfl
theorem f65_ok:FnOk Tryz.prog 65 Tryz.f65:=⟨mixed,Tryz.func65,rfl⟩
def f66_kp:KP:=⟨[(20,[0,1,2,3,4]),(26,[0,1,12])],[(12,[0,1,2,3,4,7,8])]⟩
noncomputable def f66_b (l:List Nat):Code:=cAtN l (bodyOf Tryz.f66)
def f66_r (Q:Value -> WP):Env -> WP:=retK Tryz.prog Tryz.f66 Q
def f66_j2_c (jn:Jn) (Q:Value -> WP):Env -> WP:=codeI Tryz.prog f66_kp jn (f66_b [1,1,1,1]) (f66_r Q) noX (f66_r Q)
def f66_j2 (jn:Jn) (Q:Value -> WP) (t0:Option Addr) (key1:ByteArray) (v12_b v12_o:Nat):WP:=jn 26 (f66_j2_c jn Q ) ((.pointer t0)::(.string key1)::us 10 ((.pointer (some ⟨v12_b,v12_o,none⟩))::us 41 []))
def f66_j1_c (jn:Jn) (Q:Value -> WP):Env -> WP:=codeI Tryz.prog f66_kp jn (f66_b [1,1]) (f66_r Q) noX (f66_r Q)
def f66_j1 (jn:Jn) (Q:Value -> WP) (t0:Option Addr) (key1 val2:ByteArray) (now3 life4:Int):WP:=jn 20 (f66_j1_c jn Q ) ((.pointer t0)::(.string key1)::(.string val2)::(.int .i64 now3)::(.int .i64 life4)::us 49 [])
theorem f66_j2_raw {jn:Jn} {Q:Value -> WP} {t0:Option Addr} {key1:ByteArray} {v12_b v12_o:Nat}:f66_j2_c jn Q  ((.pointer t0)::(.string key1)::us 10 ((.pointer (some ⟨v12_b,v12_o,none⟩))::us 41 [])) = (
 drawW fun S=>
 nilck t0 fun b_3 o_4=>
 ldS S .ptr b_3 o_4 fun (x_5:Option Addr)=>
 ld .str v12_b v12_o fun (x_6:ByteArray)=>
 ld (.int .i64) v12_b (v12_o + 1) fun (x_7:Int)=>
 keepS true S <|
 call1 .bool Tryz.prog 108 [.pointer x_5,.string key1,.agg #[.string x_6,.int .i64 x_7]] fun (x_8:Bool)=>
 Q (.tuple #[.bool x_8,.int .i64 0])):=by kernel_rfl
theorem f66_j1_raw {jn:Jn} {Q:Value -> WP} {t0:Option Addr} {key1 val2:ByteArray} {now3 life4:Int}:f66_j1_c jn Q  ((.pointer t0)::(.string key1)::(.string val2)::(.int .i64 now3)::(.int .i64 life4)::us 49 []) = (
 newB [.string str_empty,.int .i64 0] 141 fun b_2=>
 st b_2 0 (.string val2) <|
 st b_2 1 (.int .i64 0) <|
 ite2 (decide (life4 > 0)) (
 st b_2 1 (.int .i64 (IntKind.wrap .i64 (now3 + life4))) <|
 f66_j2 jn Q  t0 key1 b_2 0) (
 f66_j2 jn Q  t0 key1 b_2 0)):=by kernel_rfl
theorem f66_raw {jn:Jn} {t0:Option Addr} {key1 val2:ByteArray} {now3 life4:Int} {Q:Value -> WP}:funJ jn Tryz.prog f66_kp Tryz.f66 [.pointer t0,.string key1,.string val2,.int .i64 now3,.int .i64 life4] Q = (
 ite2 (Option.isNone t0) (
 Q (.tuple #[.bool false,.int .i64 1])) (
 call1 .bool Tryz.prog 107 [.string key1] fun (x_1:Bool)=>
 ite2 (!x_1) (
 Q (.tuple #[.bool false,.int .i64 2])) (
 ite2 (decide ((val2.size:Int) > 64)) (
 Q (.tuple #[.bool false,.int .i64 3])) (
 ite2 (decide (now3 < 0)) (
 Q (.tuple #[.bool false,.int .i64 1])) (
 ite2 (decide (now3 > 1125899906842624)) (
 Q (.tuple #[.bool false,.int .i64 1])) (
 ite2 (decide (life4 < 0)) (
 Q (.tuple #[.bool false,.int .i64 1])) (
 ite2 (decide (life4 > 1099511627776)) (
 Q (.tuple #[.bool false,.int .i64 1])) (
 f66_j1 jn Q  t0 key1 val2 now3 life4)))))))):=by kernel_rfl
theorem f66_ok:FnOk Tryz.prog 66 Tryz.f66:=⟨mixed,Tryz.func66,rfl⟩
def f67_kp:KP:=⟨[],[]⟩
theorem f67_raw {jn:Jn} {t0:Option Addr} {Q:Value -> WP}:funJ jn Tryz.prog f67_kp Tryz.f67 [.pointer t0] Q = (
 ite2 (Option.isNone t0) (
 Q (.int .i64 0)) (
 nilck t0 fun b_1 o_2=>
 ld .ptr b_1 o_2 fun (x_3:Option Addr)=>
 call1 (.int .i64) Tryz.prog 109 [.pointer x_3] fun (x_4:Int)=>
 Q (.int .i64 x_4))):=by kernel_rfl
theorem f67_ok:FnOk Tryz.prog 67 Tryz.f67:=⟨mixed,Tryz.func67,rfl⟩
def f68_kp:KP:=⟨[],[]⟩
theorem f68_raw {jn:Jn} {h0 n1:Int} {Q:Value -> WP}:funJ jn Tryz.prog f68_kp Tryz.f68 [.int .u64 h0,.int .i64 n1] Q = (
 ite2 (decide (n1 < 1)) (
 Q (.int .i64 0)) (
 when ((IntKind.wrap .u64 n1) ≠ 0) <|
 Q (.int .i64 (IntKind.wrap .i64 (Int.tmod h0 (IntKind.wrap .u64 n1)))))):=by kernel_rfl
theorem f68_ok:FnOk Tryz.prog 68 Tryz.f68:=⟨mixed,Tryz.func68,rfl⟩
def f69_kp:KP:=⟨[(9,[1,5,6]),(14,[5])],[]⟩
noncomputable def f69_b (l:List Nat):Code:=cAtN l (bodyOf Tryz.f69)
def f69_r (Q:Value -> WP):Env -> WP:=retK Tryz.prog Tryz.f69 Q
def f69_e2 (jn:Jn) (Q:Value -> WP):Env -> WP:=seqK Tryz.prog f69_kp jn (f69_b [1,1,1]) (f69_r Q) noX (f69_r Q)
def f69_j2_c (jn:Jn) (Q:Value -> WP):Env -> WP:=codeI Tryz.prog f69_kp jn (f69_b [1,1,1]) (f69_r Q) noX (f69_r Q)
def f69_j2 (jn:Jn) (Q:Value -> WP) (h5:Int):WP:=jn 14 (f69_j2_c jn Q ) (us 5 ((.int .u64 h5)::us 22 []))
def f69_l1 (jn:Jn) (Q:Value -> WP) (m1:Nat) (s1:ByteArray) (h5 i6:Int):WP:=lop Tryz.prog f69_kp jn (f69_b [1,1,0,1,0,0]) (blkX 0 (f69_e2 jn Q) noX) (f69_r Q) m1 (us 1 ((.string s1)::us 3 ((.int .u64 h5)::(.int .i64 i6)::us 21 [])))
theorem f69_j2_raw {jn:Jn} {Q:Value -> WP} {h5:Int}:f69_j2_c jn Q  (us 5 ((.int .u64 h5)::us 22 [])) = (
 Q (.int .u64 h5)):=by kernel_rfl
theorem f69_l1_raw {jn:Jn} {Q:Value -> WP} {m1:Nat} {s1:ByteArray} {h5 i6:Int}:f69_l1 jn Q  (m1 + 1) s1 h5 i6 = (
 ite2 (decide (i6 < (s1.size:Int))) (
 when ((0:Int) <= i6 /\ i6 < (s1.size:Int)) <|
 call1 (.int .u64) Tryz.prog 110 [.int .u64 (IntKind.wrap .u64 ((bits .xor .u64 h5 (IntKind.wrap .u64 (byteAt s1 (i6).toNat))) + 11400714819323198485))] fun (x_2:Int)=>
 f69_l1 jn Q  m1 s1 x_2 (IntKind.wrap .i64 (i6 + 1))) (
 f69_j2 jn Q  h5)):=by kernel_rfl
theorem f69_raw {jn:Jn} {seed0:Int} {s1:ByteArray} {Q:Value -> WP}:funJ jn Tryz.prog f69_kp Tryz.f69 [.int .u64 seed0,.string s1] Q = (
 call1 (.int .u64) Tryz.prog 110 [.int .u64 (bits .xor .u64 seed0 (IntKind.wrap .u64 (s1.size:Int)))] fun (x_1:Int)=>
 exM fun m=>f69_l1 jn Q  m s1 x_1 0):=by kernel_rfl
theorem f69_ok:FnOk Tryz.prog 69 Tryz.f69:=⟨mixed,Tryz.func69,rfl⟩
def f70_kp:KP:=⟨[(7,[0,3]),(10,[0,3]),(14,[0,3,4,5]),(18,[0])],[]⟩
noncomputable def f70_b (l:List Nat):Code:=cAtN l (bodyOf Tryz.f70)
def f70_r (Q:Value -> WP):Env -> WP:=retK Tryz.prog Tryz.f70 Q
def f70_e1 (jn:Jn) (Q:Value -> WP):Env -> WP:=seqK Tryz.prog f70_kp jn (f70_b [1,1]) (f70_r Q) noX (f70_r Q)
def f70_e3 (jn:Jn) (Q:Value -> WP) (m1:Nat):Env -> WP:=lopK Tryz.prog f70_kp jn (f70_b [1,0,1,0,0]) (blkX 0 (f70_e1 jn Q) noX) (f70_r Q) m1
def f70_e6 (jn:Jn) (Q:Value -> WP) (m1:Nat):Env -> WP:=seqK Tryz.prog f70_kp jn (f70_b [1,0,1,0,0,1,1]) (f70_e3 jn Q m1) (blkX 0 (f70_e1 jn Q) noX) (f70_r Q)
def f70_e7 (jn:Jn) (Q:Value -> WP) (m1:Nat):Nat -> Env -> WP:=blkX 1 (f70_e6 jn Q m1) (blkX 0 (f70_e1 jn Q) noX)
def f70_j3_c (jn:Jn) (Q:Value -> WP) (m1:Nat):Env -> WP:=codeI Tryz.prog f70_kp jn (f70_b [1,0,1,0,0,1,0,0,1,1]) (f70_e6 jn Q m1) (f70_e7 jn Q m1) (f70_r Q)
def f70_j3 (jn:Jn) (Q:Value -> WP) (m1:Nat) (s0:ByteArray) (i3 c4:Int) (ok5:Bool):WP:=jn 14 (f70_j3_c jn Q m1) ((.string s0)::us 2 ((.int .i64 i3)::(.int .u8 c4)::(.bool ok5)::us 65 []))
def f70_j2_c (jn:Jn) (Q:Value -> WP) (m1:Nat):Env -> WP:=codeI Tryz.prog f70_kp jn (f70_b [1,0,1,0,0,1]) (f70_e3 jn Q m1) (blkX 0 (f70_e1 jn Q) noX) (f70_r Q)
def f70_j2 (jn:Jn) (Q:Value -> WP) (m1:Nat) (s0:ByteArray) (i3:Int):WP:=jn 10 (f70_j2_c jn Q m1) ((.string s0)::us 2 ((.int .i64 i3)::us 67 []))
def f70_j4_c (jn:Jn) (Q:Value -> WP):Env -> WP:=codeI Tryz.prog f70_kp jn (f70_b [1,1]) (f70_r Q) noX (f70_r Q)
def f70_j4 (jn:Jn) (Q:Value -> WP) (s0:ByteArray):WP:=jn 18 (f70_j4_c jn Q ) ((.string s0)::us 70 [])
def f70_l1 (jn:Jn) (Q:Value -> WP) (m1:Nat) (s0:ByteArray) (i3:Int):WP:=lop Tryz.prog f70_kp jn (f70_b [1,0,1,0,0]) (blkX 0 (f70_e1 jn Q) noX) (f70_r Q) m1 ((.string s0)::us 2 ((.int .i64 i3)::us 67 []))
theorem f70_j3_raw {jn:Jn} {Q:Value -> WP} {m1:Nat} {s0:ByteArray} {i3 c4:Int} {ok5:Bool}:f70_j3_c jn Q m1 ((.string s0)::us 2 ((.int .i64 i3)::(.int .u8 c4)::(.bool ok5)::us 65 [])) = (
 ite2 (!ok5) (
 ite2 (c4 != 95) (
 ite2 (c4 != 45) (
 ite2 (c4 != 46) (
 ite2 (c4 != 47) (
 ite2 (c4 != 58) (
 Q (.bool false)) (
 f70_l1 jn Q  m1 s0 (IntKind.wrap .i64 (i3 + 1)))) (
 f70_l1 jn Q  m1 s0 (IntKind.wrap .i64 (i3 + 1)))) (
 f70_l1 jn Q  m1 s0 (IntKind.wrap .i64 (i3 + 1)))) (
 f70_l1 jn Q  m1 s0 (IntKind.wrap .i64 (i3 + 1)))) (
 f70_l1 jn Q  m1 s0 (IntKind.wrap .i64 (i3 + 1)))) (
 f70_l1 jn Q  m1 s0 (IntKind.wrap .i64 (i3 + 1)))):=by kernel_rfl
theorem f70_j2_raw {jn:Jn} {Q:Value -> WP} {m1:Nat} {s0:ByteArray} {i3:Int}:f70_j2_c jn Q m1 ((.string s0)::us 2 ((.int .i64 i3)::us 67 [])) = (
 when ((0:Int) <= i3 /\ i3 < (s0.size:Int)) <|
 ite2 (decide ((byteAt s0 (i3).toNat) >= 97)) (
 ite2 (decide ((byteAt s0 (i3).toNat) <= 122)) (
 f70_j3 jn Q m1 s0 i3 (byteAt s0 (i3).toNat) true) (
 ite2 (decide ((byteAt s0 (i3).toNat) >= 65)) (
 ite2 (decide ((byteAt s0 (i3).toNat) <= 90)) (
 f70_j3 jn Q m1 s0 i3 (byteAt s0 (i3).toNat) true) (
 ite2 (decide ((byteAt s0 (i3).toNat) >= 48)) (
 f70_j3 jn Q m1 s0 i3 (byteAt s0 (i3).toNat) (decide ((byteAt s0 (i3).toNat) <= 57))) (
 f70_j3 jn Q m1 s0 i3 (byteAt s0 (i3).toNat) false))) (
 ite2 (decide ((byteAt s0 (i3).toNat) >= 48)) (
 f70_j3 jn Q m1 s0 i3 (byteAt s0 (i3).toNat) (decide ((byteAt s0 (i3).toNat) <= 57))) (
 f70_j3 jn Q m1 s0 i3 (byteAt s0 (i3).toNat) false)))) (
 ite2 (decide ((byteAt s0 (i3).toNat) >= 65)) (
 ite2 (decide ((byteAt s0 (i3).toNat) <= 90)) (
 f70_j3 jn Q m1 s0 i3 (byteAt s0 (i3).toNat) true) (
 ite2 (decide ((byteAt s0 (i3).toNat) >= 48)) (
 f70_j3 jn Q m1 s0 i3 (byteAt s0 (i3).toNat) (decide ((byteAt s0 (i3).toNat) <= 57))) (
 f70_j3 jn Q m1 s0 i3 (byteAt s0 (i3).toNat) false))) (
 ite2 (decide ((byteAt s0 (i3).toNat) >= 48)) (
 f70_j3 jn Q m1 s0 i3 (byteAt s0 (i3).toNat) (decide ((byteAt s0 (i3).toNat) <= 57))) (
 f70_j3 jn Q m1 s0 i3 (byteAt s0 (i3).toNat) false)))):=by kernel_rfl
theorem f70_j4_raw {jn:Jn} {Q:Value -> WP} {s0:ByteArray}:f70_j4_c jn Q  ((.string s0)::us 70 []) = (
 ite2 (decide ((s0.size:Int) >= 1)) (
 Q (.bool (decide ((s0.size:Int) <= 24)))) (
 Q (.bool false))):=by kernel_rfl
theorem f70_l1_raw {jn:Jn} {Q:Value -> WP} {m1:Nat} {s0:ByteArray} {i3:Int}:f70_l1 jn Q  (m1 + 1) s0 i3 = (
 ite2 (decide (i3 < (s0.size:Int))) (
 ite2 (decide (i3 <= 24)) (
 f70_j2 jn Q m1 s0 i3) (
 f70_j4 jn Q  s0)) (
 f70_j4 jn Q  s0)):=by kernel_rfl
theorem f70_raw {jn:Jn} {s0:ByteArray} {Q:Value -> WP}:funJ jn Tryz.prog f70_kp Tryz.f70 [.string s0] Q = (
 exM fun m=>f70_l1 jn Q  m s0 0):=by kernel_rfl
theorem f70_ok:FnOk Tryz.prog 70 Tryz.f70:=⟨mixed,Tryz.func70,rfl⟩
def f71_kp:KP:=⟨[(7,[0,1,6]),(10,[0,1,6])],[(4,[0,1,2,3,4,6,7,8,9,10,11,13,14,15,17,18,19,20,21])]⟩
noncomputable def f71_b (l:List Nat):Code:=cAtN l (bodyOf Tryz.f71)
def f71_r (Q:Value -> WP):Env -> WP:=retK Tryz.prog Tryz.f71 Q
def f71_e2 (jn:Jn) (Q:Value -> WP):Env -> WP:=seqK Tryz.prog f71_kp jn (f71_b [1,1,1]) (f71_r Q) noX (f71_r Q)
def f71_j2_c (jn:Jn) (Q:Value -> WP):Env -> WP:=codeI Tryz.prog f71_kp jn (f71_b [1,1,1]) (f71_r Q) noX (f71_r Q)
def f71_j2 (jn:Jn) (Q:Value -> WP) (t0:Option Addr) (key1:ByteArray) (i6:Int):WP:=jn 10 (f71_j2_c jn Q ) ((.pointer t0)::(.string key1)::us 4 ((.int .i64 i6)::us 41 []))
def f71_l1 (jn:Jn) (Q:Value -> WP) (m1:Nat) (t0:Option Addr) (key1:ByteArray) (i6:Int):WP:=lop Tryz.prog f71_kp jn (f71_b [1,1,0,0,0]) (blkX 0 (f71_e2 jn Q) noX) (f71_r Q) m1 ((.pointer t0)::(.string key1)::us 4 ((.int .i64 i6)::us 41 []))
theorem f71_j2_raw {jn:Jn} {Q:Value -> WP} {t0:Option Addr} {key1:ByteArray} {i6:Int}:f71_j2_c jn Q  ((.pointer t0)::(.string key1)::us 4 ((.int .i64 i6)::us 41 [])) = (
 drawW fun S=>
 nilck t0 fun b_10 o_11=>
 ld .slc b_10 o_11 fun (x_12:Sl)=>
 ite2 (decide (i6 < (x_12.n:Int))) (
 nilck t0 fun b_13 o_14=>
 ld .slc b_13 o_14 fun (x_15:Sl)=>
 idx x_15.a x_15.n i6 fun b_16 o_17=>
 ld .str b_16 (o_17 + (i6).toNat * 3) fun (x_18:ByteArray)=>
 Q (.tuple #[.int .i64 i6,.bool (sEq x_18 key1)])) (
 Q (.tuple #[.int .i64 i6,.bool false]))):=by kernel_rfl
theorem f71_l1_raw {jn:Jn} {Q:Value -> WP} {m1:Nat} {t0:Option Addr} {key1:ByteArray} {i6:Int}:f71_l1 jn Q  (m1 + 1) t0 key1 i6 = (
 nilck t0 fun b_1 o_2=>
 ld .slc b_1 o_2 fun (x_3:Sl)=>
 ite2 (decide (i6 < (x_3.n:Int))) (
 nilck t0 fun b_4 o_5=>
 ld .slc b_4 o_5 fun (x_6:Sl)=>
 idx x_6.a x_6.n i6 fun b_7 o_8=>
 ld .str b_7 (o_8 + (i6).toNat * 3) fun (x_9:ByteArray)=>
 ite2 (sLt x_9 key1) (
 f71_l1 jn Q  m1 t0 key1 (IntKind.wrap .i64 (i6 + 1))) (
 f71_j2 jn Q  t0 key1 i6)) (
 f71_j2 jn Q  t0 key1 i6)):=by kernel_rfl
theorem f71_raw {jn:Jn} {t0:Option Addr} {key1:ByteArray} {Q:Value -> WP}:funJ jn Tryz.prog f71_kp Tryz.f71 [.pointer t0,.string key1] Q = (
 exM fun m=>f71_l1 jn Q  m t0 key1 0):=by kernel_rfl
theorem f71_ok:FnOk Tryz.prog 71 Tryz.f71:=⟨mixed,Tryz.func71,rfl⟩
def f72_kp:KP:=⟨[],[]⟩
theorem f72_raw {jn:Jn} {e0_0 e0_1:ByteArray} {e0_2 now1:Int} {Q:Value -> WP}:funJ jn Tryz.prog f72_kp Tryz.f72 [.agg #[.string e0_0,.string e0_1,.int .i64 e0_2],.int .i64 now1] Q = (
 newB [.string e0_0,.string e0_1,.int .i64 e0_2] 152 fun b_1=>
 ld (.int .i64) b_1 2 fun (x_2:Int)=>
 ite2 (decide (x_2 > 0)) (
 ld (.int .i64) b_1 2 fun (x_3:Int)=>
 Q (.bool (decide (x_3 <= now1)))) (
 Q (.bool false))):=by kernel_rfl
theorem f72_ok:FnOk Tryz.prog 72 Tryz.f72:=⟨mixed,Tryz.func72,rfl⟩
def f73_kp:KP:=⟨[],[]⟩
theorem f73_raw {jn:Jn} {n0 most1:Int} {Q:Value -> WP}:funJ jn Tryz.prog f73_kp Tryz.f73 [.int .i64 n0,.int .i64 most1] Q = (
 ite2 (decide (n0 >= most1)) (
 Q (.int .i64 n0)) (
 Q (.int .i64 (IntKind.wrap .i64 (n0 + 1))))):=by kernel_rfl
theorem f73_ok:FnOk Tryz.prog 73 Tryz.f73:=⟨mixed,Tryz.func73,rfl⟩
def f74_kp:KP:=⟨[],[(1,[0,2,3,4,5,7])]⟩
theorem f74_raw {jn:Jn} {s0:Option Addr} {key1:ByteArray} {Q:Value -> WP}:funJ jn Tryz.prog f74_kp Tryz.f74 [.pointer s0,.string key1] Q = (
 drawW fun S=>
 nilck s0 fun b_1 o_2=>
 ldS S (.int .i64) b_1 o_2 fun (x_3:Int)=>
 call1 (.int .u64) Tryz.prog 69 [.int .u64 21,.string key1] fun (x_4:Int)=>
 keepS true S <|
 call1 .bool Tryz.prog 111 [.int .u64 x_4,.int .i64 x_3] fun (x_5:Bool)=>
 nilck s0 fun b_6 o_7=>
 ld (.int .i64) b_6 (o_7 + 1) fun (x_8:Int)=>
 call1 (.int .i64) Tryz.prog 73 [.int .i64 x_8,.int .i64 1099511627776] fun (x_9:Int)=>
 nilck s0 fun b_10 o_11=>
 st b_10 (o_11 + 1) (.int .i64 x_9) <|
 ite2 x_5 (
 nilck s0 fun b_12 o_13=>
 ld (.int .i64) b_12 (o_13 + 2) fun (x_14:Int)=>
 call1 (.int .i64) Tryz.prog 73 [.int .i64 x_14,.int .i64 1099511627776] fun (x_15:Int)=>
 nilck s0 fun b_16 o_17=>
 st b_16 (o_17 + 2) (.int .i64 x_15) <|
 Q (.bool x_5)) (
 Q (.bool x_5))):=by kernel_rfl
theorem f74_ok:FnOk Tryz.prog 74 Tryz.f74:=⟨mixed,Tryz.func74,rfl⟩
def f75_kp:KP:=⟨[(8,[0,5,6,7]),(13,[0,5,6,8]),(18,[5])],[(3,[0,1,2,3,4,5,6,7,9,10,11,12,13,14,16,17,19,20]),(7,[0,1,2,3,4,5,6])]⟩
noncomputable def f75_b (l:List Nat):Code:=cAtN l (bodyOf Tryz.f75)
def f75_r (Q:Value -> WP):Env -> WP:=retK Tryz.prog Tryz.f75 Q
def f75_e4 (jn:Jn) (Q:Value -> WP):Env -> WP:=seqK Tryz.prog f75_kp jn (f75_b [1,1,1,1,1]) (f75_r Q) noX (f75_r Q)
def f75_j3_c (jn:Jn) (Q:Value -> WP):Env -> WP:=codeI Tryz.prog f75_kp jn (f75_b [1,1,1,1,1]) (f75_r Q) noX (f75_r Q)
def f75_j3 (jn:Jn) (Q:Value -> WP) (hit5:Bool):WP:=jn 18 (f75_j3_c jn Q ) (us 5 ((.bool hit5)::us 58 []))
def f75_l2 (jn:Jn) (Q:Value -> WP) (m2:Nat) (s0:Option Addr) (hit5:Bool) (gone6:Sl) (i8:Int):WP:=lop Tryz.prog f75_kp jn (f75_b [1,1,1,1,0,1,0,0]) (blkX 0 (f75_e4 jn Q) noX) (f75_r Q) m2 ((.pointer s0)::us 4 ((.bool hit5)::(.slice gone6.a gone6.n gone6.c)::us 1 ((.int .i64 i8)::us 55 [])))
def f75_j1_c (jn:Jn) (Q:Value -> WP):Env -> WP:=codeI Tryz.prog f75_kp jn (f75_b [1,1,1]) (f75_r Q) noX (f75_r Q)
def f75_j1 (jn:Jn) (Q:Value -> WP) (s0:Option Addr) (hit5:Bool) (gone6:Sl) (ghost7:Bool):WP:=jn 8 (f75_j1_c jn Q ) ((.pointer s0)::us 4 ((.bool hit5)::(.slice gone6.a gone6.n gone6.c)::(.bool ghost7)::us 56 []))
theorem f75_j3_raw {jn:Jn} {Q:Value -> WP} {hit5:Bool}:f75_j3_c jn Q  (us 5 ((.bool hit5)::us 58 [])) = (
 Q (.bool hit5)):=by kernel_rfl
theorem f75_l2_raw {jn:Jn} {Q:Value -> WP} {m2:Nat} {s0:Option Addr} {hit5:Bool} {gone6:Sl} {i8:Int}:f75_l2 jn Q  (m2 + 1) s0 hit5 gone6 i8 = (
 ite2 (decide (i8 < (gone6.n:Int))) (
 drawW fun S=>
 nilck s0 fun b_30 o_31=>
 ldS S .ptr b_30 (o_31 + 1) fun (x_32:Option Addr)=>
 idx gone6.a gone6.n i8 fun b_33 o_34=>
 ld .str b_33 (o_34 + (i8).toNat * 1) fun (x_35:ByteArray)=>
 keepS true S <|
 call2 .str .bool Tryz.prog 114 [.pointer x_32,.string x_35] fun (x_36:ByteArray) (x_37:Bool)=>
 f75_l2 jn Q  m2 s0 hit5 gone6 (IntKind.wrap .i64 (i8 + 1))) (
 f75_j3 jn Q  hit5)):=by kernel_rfl
theorem f75_j1_raw {jn:Jn} {Q:Value -> WP} {s0:Option Addr} {hit5:Bool} {gone6:Sl} {ghost7:Bool}:f75_j1_c jn Q  ((.pointer s0)::us 4 ((.bool hit5)::(.slice gone6.a gone6.n gone6.c)::(.bool ghost7)::us 56 [])) = (
 drawW fun S=>
 nilck s0 fun b_10 o_11=>
 ldS S (.int .i64) b_10 (o_11 + 2) fun (x_12:Int)=>
 ldS S (.int .i64) b_10 ((o_11 + 2) + 1) fun (x_13:Int)=>
 ldS S (.int .i64) b_10 (((o_11 + 2) + 1) + 1) fun (x_14:Int)=>
 nilck s0 fun b_15 o_16=>
 ldS S (.int .i64) b_15 (o_16 + 5) fun (x_17:Int)=>
 ldS S (.int .i64) b_15 ((o_16 + 5) + 1) fun (x_18:Int)=>
 ldS S (.int .i64) b_15 (((o_16 + 5) + 1) + 1) fun (x_19:Int)=>
 fun w=>Calls Tryz.prog 113 #[.agg #[.int .i64 x_12,.int .i64 x_13,.int .i64 x_14],.bool hit5,.bool ghost7] w fun e w'=>∃ x_20:Int,∃ x_21:Int,∃ x_22:Int,e = .returned (.agg #[.int .i64 x_20,.int .i64 x_21,.int .i64 x_22]) /\ (
 keepS true S <|
 fun w=>Calls Tryz.prog 113 #[.agg #[.int .i64 x_17,.int .i64 x_18,.int .i64 x_19],.bool hit5,.bool ghost7] w fun e w'=>∃ x_23:Int,∃ x_24:Int,∃ x_25:Int,e = .returned (.agg #[.int .i64 x_23,.int .i64 x_24,.int .i64 x_25]) /\ (
 nilck s0 fun b_26 o_27=>
 st b_26 (o_27 + 2) (.int .i64 x_20) <|
 st b_26 ((o_27 + 2) + 1) (.int .i64 x_21) <|
 st b_26 (((o_27 + 2) + 1) + 1) (.int .i64 x_22) <|
 nilck s0 fun b_28 o_29=>
 st b_28 (o_29 + 5) (.int .i64 x_23) <|
 st b_28 ((o_29 + 5) + 1) (.int .i64 x_24) <|
 st b_28 (((o_29 + 5) + 1) + 1) (.int .i64 x_25) <|
 exM fun m=>f75_l2 jn Q  m s0 hit5 gone6 0) w') w'):=by kernel_rfl
theorem f75_raw {jn:Jn} {s0:Option Addr} {key1:ByteArray} {Q:Value -> WP}:funJ jn Tryz.prog f75_kp Tryz.f75 [.pointer s0,.string key1] Q = (
 nilck s0 fun b_1 o_2=>
 ld .ptr b_1 o_2 fun (x_3:Option Addr)=>
 call2 .bool .slc Tryz.prog 89 [.pointer x_3,.string key1] fun (x_4:Bool) (x_5:Sl)=>
 ite2 (!x_4) (
 nilck s0 fun b_6 o_7=>
 ld .ptr b_6 (o_7 + 1) fun (x_8:Option Addr)=>
 call1 .bool Tryz.prog 112 [.pointer x_8,.string key1] fun (x_9:Bool)=>
 f75_j1 jn Q  s0 x_4 x_5 x_9) (
 f75_j1 jn Q  s0 x_4 x_5 false)):=by kernel_rfl
theorem f75_ok:FnOk Tryz.prog 75 Tryz.f75:=⟨mixed,Tryz.func75,rfl⟩
def f76_kp:KP:=⟨[],[]⟩
theorem f76_raw {jn:Jn} {e0:Option Addr} {Q:Value -> WP}:funJ jn Tryz.prog f76_kp Tryz.f76 [.pointer e0] Q = (
 nilck e0 fun b_1 o_2=>
 ld (.int .i64) b_1 (o_2 + 5) fun (x_3:Int)=>
 Q (.int .i64 x_3)):=by kernel_rfl
theorem f76_ok:FnOk Tryz.prog 76 Tryz.f76:=⟨mixed,Tryz.func76,rfl⟩
def f77_kp:KP:=⟨[],[]⟩
theorem f77_raw {jn:Jn} {e0:Option Addr} {Q:Value -> WP}:funJ jn Tryz.prog f77_kp Tryz.f77 [.pointer e0] Q = (
 nilck e0 fun b_1 o_2=>
 ld (.int .i64) b_1 (o_2 + 2) fun (x_3:Int)=>
 Q (.int .i64 x_3)):=by kernel_rfl
theorem f77_ok:FnOk Tryz.prog 77 Tryz.f77:=⟨mixed,Tryz.func77,rfl⟩
def f78_kp:KP:=⟨[],[]⟩
theorem f78_raw {jn:Jn} {e0:Option Addr} {Q:Value -> WP}:funJ jn Tryz.prog f78_kp Tryz.f78 [.pointer e0] Q = (
 nilck e0 fun b_1 o_2=>
 ld (.int .i64) b_1 (o_2 + 3) fun (x_3:Int)=>
 Q (.int .i64 x_3)):=by kernel_rfl
theorem f78_ok:FnOk Tryz.prog 78 Tryz.f78:=⟨mixed,Tryz.func78,rfl⟩
def f79_kp:KP:=⟨[],[]⟩
theorem f79_raw {jn:Jn} {e0:Option Addr} {Q:Value -> WP}:funJ jn Tryz.prog f79_kp Tryz.f79 [.pointer e0] Q = (
 nilck e0 fun b_1 o_2=>
 ld (.int .i64) b_1 (o_2 + 5) fun (x_3:Int)=>
 Q (.int .i64 x_3)):=by kernel_rfl
theorem f79_ok:FnOk Tryz.prog 79 Tryz.f79:=⟨mixed,Tryz.func79,rfl⟩
def f80_kp:KP:=⟨[],[]⟩
theorem f80_raw {jn:Jn} {e0:Option Addr} {Q:Value -> WP}:funJ jn Tryz.prog f80_kp Tryz.f80 [.pointer e0] Q = (
 nilck e0 fun b_1 o_2=>
 ld (.int .i64) b_1 (o_2 + 3) fun (x_3:Int)=>
 Q (.int .i64 x_3)):=by kernel_rfl
theorem f80_ok:FnOk Tryz.prog 80 Tryz.f80:=⟨mixed,Tryz.func80,rfl⟩
def f81_kp:KP:=⟨[(8,[0,1,2])],[(1,[0,1,2,3,4,5,6,7,8,9,10,11,12,13,15,16])]⟩
noncomputable def f81_b (l:List Nat):Code:=cAtN l (bodyOf Tryz.f81)
def f81_r (Q:Value -> WP):Env -> WP:=retK Tryz.prog Tryz.f81 Q
def f81_j1_c (jn:Jn) (Q:Value -> WP):Env -> WP:=codeI Tryz.prog f81_kp jn (f81_b [1,1]) (f81_r Q) noX (f81_r Q)
def f81_j1 (jn:Jn) (Q:Value -> WP) (f0:Option Addr) (kind1:Int) (key2:ByteArray):WP:=jn 8 (f81_j1_c jn Q ) ((.pointer f0)::(.int .i64 kind1)::(.string key2)::us 40 [])
theorem f81_j1_raw {jn:Jn} {Q:Value -> WP} {f0:Option Addr} {kind1:Int} {key2:ByteArray}:f81_j1_c jn Q  ((.pointer f0)::(.int .i64 kind1)::(.string key2)::us 40 []) = (
 nilck f0 fun b_7 o_8=>
 ld (.int .i64) b_7 (o_8 + 2) fun (x_9:Int)=>
 nilck f0 fun b_10 o_11=>
 st b_10 (o_11 + 2) (.int .i64 (IntKind.wrap .i64 (x_9 + 1))) <|
 nilck f0 fun b_12 o_13=>
 ld .slc b_12 o_13 fun (x_14:Sl)=>
 newB [.int .i64 kind1,.string key2] 117 fun b_15=>
 appendC 117 2 24 [.int .i64 0,.string str_empty] ⟨x_14.a,x_14.n,x_14.c⟩ 1 (fun w=>rdA w (some ⟨b_15,0,none⟩) (1 * 2)) fun s_16=>
 nilck f0 fun b_17 o_18=>
 st b_17 o_18 (.slice s_16.a s_16.n s_16.c) <|
 Q (.bool true)):=by kernel_rfl
theorem f81_raw {jn:Jn} {f0:Option Addr} {kind1:Int} {key2:ByteArray} {Q:Value -> WP}:funJ jn Tryz.prog f81_kp Tryz.f81 [.pointer f0,.int .i64 kind1,.string key2] Q = (
 drawW fun S=>
 ite2 (kind1 != 2) (
 ite2 (kind1 != 3) (
 keepS true S <|
 Q (.bool false)) (
 nilck f0 fun b_1 o_2=>
 ldS S (.int .i64) b_1 (o_2 + 2) fun (x_3:Int)=>
 nilck f0 fun b_4 o_5=>
 ld (.int .i64) b_4 (o_5 + 4) fun (x_6:Int)=>
 keepS true S <|
 ite2 (decide (x_3 >= x_6)) (
 Q (.bool false)) (
 f81_j1 jn Q  f0 kind1 key2))) (
 nilck f0 fun b_19 o_20=>
 ldS S (.int .i64) b_19 (o_20 + 2) fun (x_21:Int)=>
 nilck f0 fun b_22 o_23=>
 ld (.int .i64) b_22 (o_23 + 4) fun (x_24:Int)=>
 keepS true S <|
 ite2 (decide (x_21 >= x_24)) (
 Q (.bool false)) (
 f81_j1 jn Q  f0 kind1 key2))):=by kernel_rfl
theorem f81_ok:FnOk Tryz.prog 81 Tryz.f81:=⟨mixed,Tryz.func81,rfl⟩
def f82_kp:KP:=⟨[],[]⟩
theorem f82_raw {jn:Jn} {f0:Option Addr} {Q:Value -> WP}:funJ jn Tryz.prog f82_kp Tryz.f82 [.pointer f0] Q = (
 nilck f0 fun b_1 o_2=>
 ld .slc b_1 o_2 fun (x_3:Sl)=>
 nilck f0 fun b_4 o_5=>
 st b_4 o_5 (.slice none 0 0) <|
 nilck f0 fun b_6 o_7=>
 st b_6 (o_7 + 1) (.int .i64 0) <|
 nilck f0 fun b_8 o_9=>
 st b_8 (o_9 + 2) (.int .i64 0) <|
 Q (.slice x_3.a x_3.n x_3.c)):=by kernel_rfl
theorem f82_ok:FnOk Tryz.prog 82 Tryz.f82:=⟨mixed,Tryz.func82,rfl⟩
def f83_kp:KP:=⟨[],[(8,[0,1,2,3,4]),(10,[0,1,2,3,4])]⟩
theorem f83_raw {jn:Jn} {m0:Option Addr} {e1_0:Int} {e1_1:ByteArray} {Q:Value -> WP}:funJ jn Tryz.prog f83_kp Tryz.f83 [.pointer m0,.agg #[.int .i64 e1_0,.string e1_1]] Q = (
 newB [.int .i64 e1_0,.string e1_1] 117 fun b_1=>
 ld (.int .i64) b_1 0 fun (x_2:Int)=>
 ite2 (x_2 == 1) (
 ld .str b_1 1 fun (x_3:ByteArray)=>
 call1 .bool Tryz.prog 84 [.pointer m0,.string x_3] fun (x_4:Bool)=>
 ite2 x_4 (
 ld .str b_1 1 fun (x_5:ByteArray)=>
 call1 .slc Tryz.prog 85 [.pointer m0,.string x_5] fun (x_6:Sl)=>
 Q (.slice x_6.a x_6.n x_6.c)) (
 Q (.slice none 0 0))) (
 ite2 (x_2 == 2) (
 ld .str b_1 1 fun (x_7:ByteArray)=>
 call1 .slc Tryz.prog 48 [.pointer m0,.string x_7] fun (x_8:Sl)=>
 Q (.slice x_8.a x_8.n x_8.c)) (
 ite2 (x_2 == 3) (
 drawW fun S=>
 nilck m0 fun b_9 o_10=>
 ldS S .ptr b_9 o_10 fun (x_11:Option Addr)=>
 ld .str b_1 1 fun (x_12:ByteArray)=>
 keepS true S <|
 call1 .bool Tryz.prog 115 [.pointer x_11,.string x_12] fun (x_13:Bool)=>
 nilck m0 fun b_14 o_15=>
 ld .ptr b_14 (o_15 + 1) fun (x_16:Option Addr)=>
 ite2 (!Option.isNone x_16) (
 drawW fun S=>
 nilck m0 fun b_17 o_18=>
 ldS S .ptr b_17 (o_18 + 1) fun (x_19:Option Addr)=>
 ld .str b_1 1 fun (x_20:ByteArray)=>
 keepS true S <|
 call1 .bool Tryz.prog 115 [.pointer x_19,.string x_20] fun (x_21:Bool)=>
 Q (.slice none 0 0)) (
 Q (.slice none 0 0))) (
 Q (.slice none 0 0))))):=by kernel_rfl
theorem f83_ok:FnOk Tryz.prog 83 Tryz.f83:=⟨mixed,Tryz.func83,rfl⟩
def f84_kp:KP:=⟨[],[]⟩
theorem f84_raw {jn:Jn} {m0:Option Addr} {key1:ByteArray} {Q:Value -> WP}:funJ jn Tryz.prog f84_kp Tryz.f84 [.pointer m0,.string key1] Q = (
 nilck m0 fun b_1 o_2=>
 ld .ptr b_1 o_2 fun (x_3:Option Addr)=>
 call1 .bool Tryz.prog 116 [.pointer x_3,.string key1] fun (x_4:Bool)=>
 ite2 x_4 (
 Q (.bool true)) (
 nilck m0 fun b_5 o_6=>
 ld .ptr b_5 (o_6 + 1) fun (x_7:Option Addr)=>
 ite2 (!Option.isNone x_7) (
 nilck m0 fun b_8 o_9=>
 ld .ptr b_8 (o_9 + 1) fun (x_10:Option Addr)=>
 call1 .bool Tryz.prog 116 [.pointer x_10,.string key1] fun (x_11:Bool)=>
 Q (.bool x_11)) (
 Q (.bool false)))):=by kernel_rfl
theorem f84_ok:FnOk Tryz.prog 84 Tryz.f84:=⟨mixed,Tryz.func84,rfl⟩
def f85_kp:KP:=⟨[(6,[0,1,19]),(10,[0,1])],[]⟩
noncomputable def f85_b (l:List Nat):Code:=cAtN l (bodyOf Tryz.f85)
def f85_r (Q:Value -> WP):Env -> WP:=retK Tryz.prog Tryz.f85 Q
def f85_e1 (jn:Jn) (Q:Value -> WP):Env -> WP:=seqK Tryz.prog f85_kp jn (f85_b [1,1]) (f85_r Q) noX (f85_r Q)
def f85_j2_c (jn:Jn) (Q:Value -> WP):Env -> WP:=codeI Tryz.prog f85_kp jn (f85_b [1,1]) (f85_r Q) noX (f85_r Q)
def f85_j2 (jn:Jn) (Q:Value -> WP) (m0:Option Addr) (key1:ByteArray):WP:=jn 10 (f85_j2_c jn Q ) ((.pointer m0)::(.string key1)::us 40 [])
def f85_j1_c (jn:Jn) (Q:Value -> WP):Env -> WP:=codeI Tryz.prog f85_kp jn (f85_b [1,0,1]) (f85_e1 jn Q) noX (f85_r Q)
def f85_j1 (jn:Jn) (Q:Value -> WP) (m0:Option Addr) (key1:ByteArray) (t19:Bool):WP:=jn 6 (f85_j1_c jn Q ) ((.pointer m0)::(.string key1)::us 17 ((.bool t19)::us 22 []))
theorem f85_j2_raw {jn:Jn} {Q:Value -> WP} {m0:Option Addr} {key1:ByteArray}:f85_j2_c jn Q  ((.pointer m0)::(.string key1)::us 40 []) = (
 nilck m0 fun b_16 o_17=>
 ld .ptr b_16 o_17 fun (x_18:Option Addr)=>
 call2 .bool .slc Tryz.prog 89 [.pointer x_18,.string key1] fun (x_19:Bool) (x_20:Sl)=>
 Q (.slice x_20.a x_20.n x_20.c)):=by kernel_rfl
theorem f85_j1_raw {jn:Jn} {Q:Value -> WP} {m0:Option Addr} {key1:ByteArray} {t19:Bool}:f85_j1_c jn Q  ((.pointer m0)::(.string key1)::us 17 ((.bool t19)::us 22 [])) = (
 ite2 t19 (
 nilck m0 fun b_8 o_9=>
 ld .ptr b_8 (o_9 + 1) fun (x_10:Option Addr)=>
 call1 .bool Tryz.prog 115 [.pointer x_10,.string key1] fun (x_11:Bool)=>
 nilck m0 fun b_12 o_13=>
 ld .ptr b_12 o_13 fun (x_14:Option Addr)=>
 call1 .bool Tryz.prog 117 [.pointer x_14,.string key1] fun (x_15:Bool)=>
 f85_j2 jn Q  m0 key1) (
 f85_j2 jn Q  m0 key1)):=by kernel_rfl
theorem f85_raw {jn:Jn} {m0:Option Addr} {key1:ByteArray} {Q:Value -> WP}:funJ jn Tryz.prog f85_kp Tryz.f85 [.pointer m0,.string key1] Q = (
 nilck m0 fun b_1 o_2=>
 ld .ptr b_1 (o_2 + 1) fun (x_3:Option Addr)=>
 ite2 (!Option.isNone x_3) (
 nilck m0 fun b_4 o_5=>
 ld .ptr b_4 (o_5 + 1) fun (x_6:Option Addr)=>
 call1 .bool Tryz.prog 116 [.pointer x_6,.string key1] fun (x_7:Bool)=>
 f85_j1 jn Q  m0 key1 x_7) (
 f85_j1 jn Q  m0 key1 false)):=by kernel_rfl
theorem f85_ok:FnOk Tryz.prog 85 Tryz.f85:=⟨mixed,Tryz.func85,rfl⟩
def f86_kp:KP:=⟨[],[]⟩
theorem f86_raw {jn:Jn} {m0:Option Addr} {Q:Value -> WP}:funJ jn Tryz.prog f86_kp Tryz.f86 [.pointer m0] Q = (
 nilck m0 fun b_1 o_2=>
 ld .ptr b_1 o_2 fun (x_3:Option Addr)=>
 call1 (.int .i64) Tryz.prog 118 [.pointer x_3] fun (x_4:Int)=>
 call1 (.int .i64) Tryz.prog 87 [.pointer m0] fun (x_5:Int)=>
 Q (.int .i64 (IntKind.wrap .i64 (x_4 + x_5)))):=by kernel_rfl
theorem f86_ok:FnOk Tryz.prog 86 Tryz.f86:=⟨mixed,Tryz.func86,rfl⟩
def f87_kp:KP:=⟨[],[]⟩
theorem f87_raw {jn:Jn} {m0:Option Addr} {Q:Value -> WP}:funJ jn Tryz.prog f87_kp Tryz.f87 [.pointer m0] Q = (
 nilck m0 fun b_1 o_2=>
 ld .ptr b_1 (o_2 + 1) fun (x_3:Option Addr)=>
 ite2 (Option.isNone x_3) (
 Q (.int .i64 0)) (
 nilck m0 fun b_4 o_5=>
 ld .ptr b_4 (o_5 + 1) fun (x_6:Option Addr)=>
 call1 (.int .i64) Tryz.prog 118 [.pointer x_6] fun (x_7:Int)=>
 Q (.int .i64 x_7))):=by kernel_rfl
theorem f87_ok:FnOk Tryz.prog 87 Tryz.f87:=⟨mixed,Tryz.func87,rfl⟩
def f88_kp:KP:=⟨[],[]⟩
theorem f88_raw {jn:Jn} {e0:Option Addr} {Q:Value -> WP}:funJ jn Tryz.prog f88_kp Tryz.f88 [.pointer e0] Q = (
 nilck e0 fun b_1 o_2=>
 ld (.int .i64) b_1 o_2 fun (x_3:Int)=>
 ite2 (x_3 == 0) (
 nilck e0 fun b_4 o_5=>
 ld .ptr b_4 (o_5 + 1) fun (x_6:Option Addr)=>
 call2 .str .bool Tryz.prog 119 [.pointer x_6] fun (x_7:ByteArray) (x_8:Bool)=>
 Q (.tuple #[.string x_7,.bool x_8])) (
 ite2 (x_3 == 1) (
 nilck e0 fun b_9 o_10=>
 ld .ptr b_9 (o_10 + 2) fun (x_11:Option Addr)=>
 call2 .str .bool Tryz.prog 120 [.pointer x_11] fun (x_12:ByteArray) (x_13:Bool)=>
 Q (.tuple #[.string x_12,.bool x_13])) (
 ite2 (x_3 == 2) (
 nilck e0 fun b_14 o_15=>
 ld .ptr b_14 (o_15 + 3) fun (x_16:Option Addr)=>
 call2 .str .bool Tryz.prog 121 [.pointer x_16] fun (x_17:ByteArray) (x_18:Bool)=>
 Q (.tuple #[.string x_17,.bool x_18])) (
 ite2 (x_3 == 3) (
 nilck e0 fun b_19 o_20=>
 ld .ptr b_19 (o_20 + 4) fun (x_21:Option Addr)=>
 call2 .str .bool Tryz.prog 122 [.pointer x_21] fun (x_22:ByteArray) (x_23:Bool)=>
 Q (.tuple #[.string x_22,.bool x_23])) (
 nilck e0 fun b_24 o_25=>
 ld .ptr b_24 (o_25 + 5) fun (x_26:Option Addr)=>
 call2 .str .bool Tryz.prog 123 [.pointer x_26] fun (x_27:ByteArray) (x_28:Bool)=>
 Q (.tuple #[.string x_27,.bool x_28])))))):=by kernel_rfl
theorem f88_ok:FnOk Tryz.prog 88 Tryz.f88:=⟨mixed,Tryz.func88,rfl⟩
def f89_kp:KP:=⟨[],[]⟩
theorem f89_raw {jn:Jn} {e0:Option Addr} {key1:ByteArray} {Q:Value -> WP}:funJ jn Tryz.prog f89_kp Tryz.f89 [.pointer e0,.string key1] Q = (
 nilck e0 fun b_1 o_2=>
 ld (.int .i64) b_1 o_2 fun (x_3:Int)=>
 ite2 (x_3 == 0) (
 nilck e0 fun b_4 o_5=>
 ld .ptr b_4 (o_5 + 1) fun (x_6:Option Addr)=>
 call2 .bool .slc Tryz.prog 124 [.pointer x_6,.string key1] fun (x_7:Bool) (x_8:Sl)=>
 Q (.tuple #[.bool x_7,.slice x_8.a x_8.n x_8.c])) (
 ite2 (x_3 == 1) (
 nilck e0 fun b_9 o_10=>
 ld .ptr b_9 (o_10 + 2) fun (x_11:Option Addr)=>
 call2 .bool .slc Tryz.prog 125 [.pointer x_11,.string key1] fun (x_12:Bool) (x_13:Sl)=>
 Q (.tuple #[.bool x_12,.slice x_13.a x_13.n x_13.c])) (
 ite2 (x_3 == 2) (
 nilck e0 fun b_14 o_15=>
 ld .ptr b_14 (o_15 + 3) fun (x_16:Option Addr)=>
 call2 .bool .slc Tryz.prog 126 [.pointer x_16,.string key1] fun (x_17:Bool) (x_18:Sl)=>
 Q (.tuple #[.bool x_17,.slice x_18.a x_18.n x_18.c])) (
 ite2 (x_3 == 3) (
 nilck e0 fun b_19 o_20=>
 ld .ptr b_19 (o_20 + 4) fun (x_21:Option Addr)=>
 call2 .bool .slc Tryz.prog 127 [.pointer x_21,.string key1] fun (x_22:Bool) (x_23:Sl)=>
 Q (.tuple #[.bool x_22,.slice x_23.a x_23.n x_23.c])) (
 nilck e0 fun b_24 o_25=>
 ld .ptr b_24 (o_25 + 5) fun (x_26:Option Addr)=>
 call2 .bool .slc Tryz.prog 128 [.pointer x_26,.string key1] fun (x_27:Bool) (x_28:Sl)=>
 Q (.tuple #[.bool x_27,.slice x_28.a x_28.n x_28.c])))))):=by kernel_rfl
theorem f89_ok:FnOk Tryz.prog 89 Tryz.f89:=⟨mixed,Tryz.func89,rfl⟩
def f90_kp:KP:=⟨[(9,[0,1,5,6]),(16,[5])],[]⟩
noncomputable def f90_b (l:List Nat):Code:=cAtN l (bodyOf Tryz.f90)
def f90_r (Q:Value -> WP):Env -> WP:=retK Tryz.prog Tryz.f90 Q
def f90_e2 (jn:Jn) (Q:Value -> WP):Env -> WP:=seqK Tryz.prog f90_kp jn (f90_b [1,1,1]) (f90_r Q) noX (f90_r Q)
def f90_j2_c (jn:Jn) (Q:Value -> WP):Env -> WP:=codeI Tryz.prog f90_kp jn (f90_b [1,1,1]) (f90_r Q) noX (f90_r Q)
def f90_j2 (jn:Jn) (Q:Value -> WP) (l5:Sl):WP:=jn 16 (f90_j2_c jn Q ) (us 5 ((.slice l5.a l5.n l5.c)::us 31 []))
def f90_l1 (jn:Jn) (Q:Value -> WP) (m1:Nat) (t0:Option Addr) (now1:Int) (l5:Sl) (i6:Int):WP:=lop Tryz.prog f90_kp jn (f90_b [1,1,0,1,0,0]) (blkX 0 (f90_e2 jn Q) noX) (f90_r Q) m1 ((.pointer t0)::(.int .i64 now1)::us 3 ((.slice l5.a l5.n l5.c)::(.int .i64 i6)::us 30 []))
theorem f90_j2_raw {jn:Jn} {Q:Value -> WP} {l5:Sl}:f90_j2_c jn Q  (us 5 ((.slice l5.a l5.n l5.c)::us 31 [])) = (
 Q (.slice l5.a l5.n l5.c)):=by kernel_rfl
theorem f90_l1_raw {jn:Jn} {Q:Value -> WP} {m1:Nat} {t0:Option Addr} {now1:Int} {l5:Sl} {i6:Int}:f90_l1 jn Q  (m1 + 1) t0 now1 l5 i6 = (
 nilck t0 fun b_1 o_2=>
 ld .slc b_1 o_2 fun (x_3:Sl)=>
 ite2 (decide (i6 < (x_3.n:Int))) (
 nilck t0 fun b_4 o_5=>
 ld .slc b_4 o_5 fun (x_6:Sl)=>
 idx x_6.a x_6.n i6 fun b_7 o_8=>
 ld .str b_7 (o_8 + (i6).toNat * 3) fun (x_9:ByteArray)=>
 ld .str b_7 ((o_8 + (i6).toNat * 3) + 1) fun (x_10:ByteArray)=>
 ld (.int .i64) b_7 (((o_8 + (i6).toNat * 3) + 1) + 1) fun (x_11:Int)=>
 call1 .bool Tryz.prog 72 [.agg #[.string x_9,.string x_10,.int .i64 x_11],.int .i64 now1] fun (x_12:Bool)=>
 ite2 x_12 (
 nilck t0 fun b_13 o_14=>
 ld .slc b_13 o_14 fun (x_15:Sl)=>
 idx x_15.a x_15.n i6 fun b_16 o_17=>
 ld .str b_16 (o_17 + (i6).toNat * 3) fun (x_18:ByteArray)=>
 newB [.string x_18] 9 fun b_19=>
 appendC 9 1 16 [.string str_empty] ⟨l5.a,l5.n,l5.c⟩ 1 (fun w=>rdA w (some ⟨b_19,0,none⟩) (1 * 1)) fun s_20=>
 f90_l1 jn Q  m1 t0 now1 s_20 (IntKind.wrap .i64 (i6 + 1))) (
 f90_l1 jn Q  m1 t0 now1 l5 (IntKind.wrap .i64 (i6 + 1)))) (
 f90_j2 jn Q  l5)):=by kernel_rfl
theorem f90_raw {jn:Jn} {t0:Option Addr} {now1:Int} {Q:Value -> WP}:funJ jn Tryz.prog f90_kp Tryz.f90 [.pointer t0,.int .i64 now1] Q = (
 exM fun m=>f90_l1 jn Q  m t0 now1 ⟨none,0,0⟩ 0):=by kernel_rfl
theorem f90_ok:FnOk Tryz.prog 90 Tryz.f90:=⟨mixed,Tryz.func90,rfl⟩
def f91_kp:KP:=⟨[],[(7,[0,1,2,3,4,5]),(8,[0,1,2,3,4,5])]⟩
theorem f91_raw {jn:Jn} {m0:Option Addr} {Q:Value -> WP}:funJ jn Tryz.prog f91_kp Tryz.f91 [.pointer m0] Q = (
 nilck m0 fun b_1 o_2=>
 ld .ptr b_1 (o_2 + 1) fun (x_3:Option Addr)=>
 ite2 (Option.isNone x_3) (
 Q (.tuple #[.string str_empty,.bool false])) (
 nilck m0 fun b_4 o_5=>
 ld .ptr b_4 (o_5 + 1) fun (x_6:Option Addr)=>
 call1 .slc Tryz.prog 129 [.pointer x_6] fun (x_7:Sl)=>
 ite2 ((x_7.n:Int) == 0) (
 nilck m0 fun b_8 o_9=>
 st b_8 (o_9 + 1) (.pointer none) <|
 Q (.tuple #[.string str_empty,.bool false])) (
 drawW fun S=>
 nilck m0 fun b_10 o_11=>
 ldS S .ptr b_10 (o_11 + 1) fun (x_12:Option Addr)=>
 idx x_7.a x_7.n 0 fun b_13 o_14=>
 ld .str b_13 (o_14 + ((0:Int)).toNat * 1) fun (x_15:ByteArray)=>
 keepS true S <|
 call1 .bool Tryz.prog 115 [.pointer x_12,.string x_15] fun (x_16:Bool)=>
 drawW fun S=>
 nilck m0 fun b_17 o_18=>
 ldS S .ptr b_17 o_18 fun (x_19:Option Addr)=>
 idx x_7.a x_7.n 0 fun b_20 o_21=>
 ld .str b_20 (o_21 + ((0:Int)).toNat * 1) fun (x_22:ByteArray)=>
 keepS true S <|
 call1 .bool Tryz.prog 117 [.pointer x_19,.string x_22] fun (x_23:Bool)=>
 idx x_7.a x_7.n 0 fun b_24 o_25=>
 ld .str b_24 (o_25 + ((0:Int)).toNat * 1) fun (x_26:ByteArray)=>
 Q (.tuple #[.string x_26,.bool true])))):=by kernel_rfl
theorem f91_ok:FnOk Tryz.prog 91 Tryz.f91:=⟨mixed,Tryz.func91,rfl⟩
def f92_kp:KP:=⟨[],[]⟩
theorem f92_raw {jn:Jn} {s0:Option Addr} {Q:Value -> WP}:funJ jn Tryz.prog f92_kp Tryz.f92 [.pointer s0] Q = (
 newB [.int .i64 0,.int .i64 0,.int .i64 0] 167 fun b_1=>
 nilck s0 fun b_2 o_3=>
 ld (.int .i64) b_2 (o_3 + 2) fun (x_4:Int)=>
 ld (.int .i64) b_2 ((o_3 + 2) + 1) fun (x_5:Int)=>
 ld (.int .i64) b_2 (((o_3 + 2) + 1) + 1) fun (x_6:Int)=>
 newB [.int .i64 0,.int .i64 0,.int .i64 0] 167 fun b_7=>
 st b_7 0 (.int .i64 x_4) <|
 st b_7 1 (.int .i64 x_5) <|
 st b_7 2 (.int .i64 x_6) <|
 nilck s0 fun b_8 o_9=>
 st b_8 (o_9 + 2) (.int .i64 0) <|
 st b_8 ((o_9 + 2) + 1) (.int .i64 0) <|
 st b_8 (((o_9 + 2) + 1) + 1) (.int .i64 0) <|
 ld (.int .i64) b_7 0 fun (x_10:Int)=>
 ld (.int .i64) b_7 1 fun (x_11:Int)=>
 ld (.int .i64) b_7 2 fun (x_12:Int)=>
 st b_1 0 (.int .i64 x_10) <|
 st b_1 1 (.int .i64 x_11) <|
 st b_1 2 (.int .i64 x_12) <|
 ld (.int .i64) b_1 0 fun (x_13:Int)=>
 ld (.int .i64) b_1 1 fun (x_14:Int)=>
 ld (.int .i64) b_1 2 fun (x_15:Int)=>
 Q (.agg #[.int .i64 x_13,.int .i64 x_14,.int .i64 x_15])):=by kernel_rfl
theorem f92_ok:FnOk Tryz.prog 92 Tryz.f92:=⟨mixed,Tryz.func92,rfl⟩
def f93_kp:KP:=⟨[(13,[2,3,4,6,7,8]),(18,[6,7]),(25,[6,7,9,10,11]),(30,[6,7,10]),(33,[6,7,10,12]),(40,[6,7,10])],[(7,[0,1,2,3,4,5,7,11]),(17,[0,1,2,3,4,6]),(19,[0,1,2,3,4,7,8])]⟩
noncomputable def f93_b (l:List Nat):Code:=cAtN l (bodyOf Tryz.f93)
def f93_r (Q:Value -> WP):Env -> WP:=retK Tryz.prog Tryz.f93 Q
def f93_e5 (jn:Jn) (Q:Value -> WP):Env -> WP:=seqK Tryz.prog f93_kp jn (f93_b [1,1,1,1]) (f93_r Q) noX (f93_r Q)
def f93_e14 (jn:Jn) (Q:Value -> WP):Env -> WP:=seqK Tryz.prog f93_kp jn (f93_b [1,1,1,1,1,1,1]) (f93_r Q) noX (f93_r Q)
def f93_e21 (jn:Jn) (Q:Value -> WP):Env -> WP:=seqK Tryz.prog f93_kp jn (f93_b [1,1,1,1,1,1,1,1]) (f93_r Q) noX (f93_r Q)
def f93_j6_c (jn:Jn) (Q:Value -> WP):Env -> WP:=codeI Tryz.prog f93_kp jn (f93_b [1,1,1,1,1,1,1,1]) (f93_r Q) noX (f93_r Q)
def f93_j6 (jn:Jn) (Q:Value -> WP) (t6_b t6_o x7_b x7_o:Nat) (most10:Int):WP:=jn 40 (f93_j6_c jn Q ) (us 6 ((.pointer (some ⟨t6_b,t6_o,none⟩))::(.pointer (some ⟨x7_b,x7_o,none⟩))::us 2 ((.int .i64 most10)::us 58 [])))
def f93_l5 (jn:Jn) (Q:Value -> WP) (m5:Nat) (t6_b t6_o x7_b x7_o:Nat) (most10 i12:Int):WP:=lop Tryz.prog f93_kp jn (f93_b [1,1,1,1,1,1,1,0,1,0,0]) (blkX 4 (f93_e21 jn Q) noX) (f93_r Q) m5 (us 6 ((.pointer (some ⟨t6_b,t6_o,none⟩))::(.pointer (some ⟨x7_b,x7_o,none⟩))::us 2 ((.int .i64 most10)::us 1 ((.int .i64 i12)::us 56 []))))
def f93_j4_c (jn:Jn) (Q:Value -> WP):Env -> WP:=codeI Tryz.prog f93_kp jn (f93_b [1,1,1,1,1,1,1]) (f93_r Q) noX (f93_r Q)
def f93_j4 (jn:Jn) (Q:Value -> WP) (t6_b t6_o x7_b x7_o:Nat) (most10:Int):WP:=jn 30 (f93_j4_c jn Q ) (us 6 ((.pointer (some ⟨t6_b,t6_o,none⟩))::(.pointer (some ⟨x7_b,x7_o,none⟩))::us 2 ((.int .i64 most10)::us 58 [])))
def f93_l3 (jn:Jn) (Q:Value -> WP) (m3:Nat) (t6_b t6_o x7_b x7_o:Nat) (t9 most10 i11:Int):WP:=lop Tryz.prog f93_kp jn (f93_b [1,1,1,1,1,1,0,1,0,0]) (blkX 2 (f93_e14 jn Q) noX) (f93_r Q) m3 (us 6 ((.pointer (some ⟨t6_b,t6_o,none⟩))::(.pointer (some ⟨x7_b,x7_o,none⟩))::us 1 ((.int .u64 t9)::(.int .i64 most10)::(.int .i64 i11)::us 57 [])))
def f93_j2_c (jn:Jn) (Q:Value -> WP):Env -> WP:=codeI Tryz.prog f93_kp jn (f93_b [1,1,1,1]) (f93_r Q) noX (f93_r Q)
def f93_j2 (jn:Jn) (Q:Value -> WP) (t6_b t6_o x7_b x7_o:Nat):WP:=jn 18 (f93_j2_c jn Q ) (us 6 ((.pointer (some ⟨t6_b,t6_o,none⟩))::(.pointer (some ⟨x7_b,x7_o,none⟩))::us 61 []))
def f93_l1 (jn:Jn) (Q:Value -> WP) (m1:Nat) (all2:Int) (w3_b w3_o ghosts4_b ghosts4_o t6_b t6_o x7_b x7_o:Nat) (i8:Int):WP:=lop Tryz.prog f93_kp jn (f93_b [1,1,1,0,1,0,0]) (blkX 0 (f93_e5 jn Q) noX) (f93_r Q) m1 (us 2 ((.int .i64 all2)::(.pointer (some ⟨w3_b,w3_o,none⟩))::(.pointer (some ⟨ghosts4_b,ghosts4_o,none⟩))::us 1 ((.pointer (some ⟨t6_b,t6_o,none⟩))::(.pointer (some ⟨x7_b,x7_o,none⟩))::(.int .i64 i8)::us 60 [])))
theorem f93_j6_raw {jn:Jn} {Q:Value -> WP} {t6_b t6_o x7_b x7_o:Nat} {most10:Int}:f93_j6_c jn Q  (us 6 ((.pointer (some ⟨t6_b,t6_o,none⟩))::(.pointer (some ⟨x7_b,x7_o,none⟩))::us 2 ((.int .i64 most10)::us 58 []))) = (
 drawW fun S=>
 when ((0:Int) <= most10 /\ most10 < ((5:Nat):Int)) <|
 ldS S (.int .u64) x7_b (x7_o + (most10).toNat * 1) fun (x_36:Int)=>
 ld (.int .u64) x7_b x7_o fun (x_37:Int)=>
 ld (.int .u64) x7_b (x7_o + 1) fun (x_38:Int)=>
 ld (.int .u64) x7_b ((x7_o + 1) + 1) fun (x_39:Int)=>
 ld (.int .u64) x7_b (((x7_o + 1) + 1) + 1) fun (x_40:Int)=>
 ld (.int .u64) x7_b ((((x7_o + 1) + 1) + 1) + 1) fun (x_41:Int)=>
 keepS true S <|
 call1 (.int .u64) Tryz.prog 134 [.agg #[.int .u64 x_37,.int .u64 x_38,.int .u64 x_39,.int .u64 x_40,.int .u64 x_41]] fun (x_42:Int)=>
 keepS true S <|
 when ((0:Int) <= most10 /\ most10 < ((5:Nat):Int)) <|
 st x7_b (x7_o + (most10).toNat * 1) (.int .u64 (IntKind.wrap .u64 ((IntKind.wrap .u64 (x_36 + 4294967296)) - x_42))) <|
 ld (.int .u64) x7_b x7_o fun (x_43:Int)=>
 ld (.int .u64) x7_b (x7_o + 1) fun (x_44:Int)=>
 ld (.int .u64) x7_b ((x7_o + 1) + 1) fun (x_45:Int)=>
 ld (.int .u64) x7_b (((x7_o + 1) + 1) + 1) fun (x_46:Int)=>
 ld (.int .u64) x7_b ((((x7_o + 1) + 1) + 1) + 1) fun (x_47:Int)=>
 st t6_b t6_o (.int .u64 x_43) <|
 st t6_b (t6_o + 1) (.int .u64 x_44) <|
 st t6_b ((t6_o + 1) + 1) (.int .u64 x_45) <|
 st t6_b (((t6_o + 1) + 1) + 1) (.int .u64 x_46) <|
 st t6_b ((((t6_o + 1) + 1) + 1) + 1) (.int .u64 x_47) <|
 ld (.int .u64) t6_b t6_o fun (x_48:Int)=>
 ld (.int .u64) t6_b (t6_o + 1) fun (x_49:Int)=>
 ld (.int .u64) t6_b ((t6_o + 1) + 1) fun (x_50:Int)=>
 ld (.int .u64) t6_b (((t6_o + 1) + 1) + 1) fun (x_51:Int)=>
 ld (.int .u64) t6_b ((((t6_o + 1) + 1) + 1) + 1) fun (x_52:Int)=>
 Q (.agg #[.int .u64 x_48,.int .u64 x_49,.int .u64 x_50,.int .u64 x_51,.int .u64 x_52])):=by kernel_rfl
theorem f93_l5_raw {jn:Jn} {Q:Value -> WP} {m5:Nat} {t6_b t6_o x7_b x7_o:Nat} {most10 i12:Int}:f93_l5 jn Q  (m5 + 1) t6_b t6_o x7_b x7_o most10 i12 = (
 ite2 (decide (i12 < 5)) (
 drawW fun S=>
 when ((0:Int) <= i12 /\ i12 < ((5:Nat):Int)) <|
 ldS S (.int .u64) x7_b (x7_o + (i12).toNat * 1) fun (x_34:Int)=>
 when ((0:Int) <= most10 /\ most10 < ((5:Nat):Int)) <|
 ld (.int .u64) x7_b (x7_o + (most10).toNat * 1) fun (x_35:Int)=>
 keepS true S <|
 ite2 (decide (x_34 > x_35)) (
 f93_l5 jn Q  m5 t6_b t6_o x7_b x7_o i12 (IntKind.wrap .i64 (i12 + 1))) (
 f93_l5 jn Q  m5 t6_b t6_o x7_b x7_o most10 (IntKind.wrap .i64 (i12 + 1)))) (
 f93_j6 jn Q  t6_b t6_o x7_b x7_o most10)):=by kernel_rfl
theorem f93_j4_raw {jn:Jn} {Q:Value -> WP} {t6_b t6_o x7_b x7_o:Nat} {most10:Int}:f93_j4_c jn Q  (us 6 ((.pointer (some ⟨t6_b,t6_o,none⟩))::(.pointer (some ⟨x7_b,x7_o,none⟩))::us 2 ((.int .i64 most10)::us 58 []))) = (
 exM fun m=>f93_l5 jn Q  m t6_b t6_o x7_b x7_o most10 1):=by kernel_rfl
theorem f93_l3_raw {jn:Jn} {Q:Value -> WP} {m3:Nat} {t6_b t6_o x7_b x7_o:Nat} {t9 most10 i11:Int}:f93_l3 jn Q  (m3 + 1) t6_b t6_o x7_b x7_o t9 most10 i11 = (
 ite2 (decide (i11 < 5)) (
 when ((0:Int) <= i11 /\ i11 < ((5:Nat):Int)) <|
 ld (.int .u64) x7_b (x7_o + (i11).toNat * 1) fun (x_32:Int)=>
 call1 (.int .u64) Tryz.prog 135 [.int .u64 x_32,.int .u64 4294967296,.int .u64 t9] fun (x_33:Int)=>
 when ((0:Int) <= i11 /\ i11 < ((5:Nat):Int)) <|
 st x7_b (x7_o + (i11).toNat * 1) (.int .u64 (if x_33 > 42949672 then x_33 else 42949672)) <|
 f93_l3 jn Q  m3 t6_b t6_o x7_b x7_o t9 most10 (IntKind.wrap .i64 (i11 + 1))) (
 f93_j4 jn Q  t6_b t6_o x7_b x7_o most10)):=by kernel_rfl
theorem f93_j2_raw {jn:Jn} {Q:Value -> WP} {t6_b t6_o x7_b x7_o:Nat}:f93_j2_c jn Q  (us 6 ((.pointer (some ⟨t6_b,t6_o,none⟩))::(.pointer (some ⟨x7_b,x7_o,none⟩))::us 61 [])) = (
 ld (.int .u64) x7_b x7_o fun (x_26:Int)=>
 ld (.int .u64) x7_b (x7_o + 1) fun (x_27:Int)=>
 ld (.int .u64) x7_b ((x7_o + 1) + 1) fun (x_28:Int)=>
 ld (.int .u64) x7_b (((x7_o + 1) + 1) + 1) fun (x_29:Int)=>
 ld (.int .u64) x7_b ((((x7_o + 1) + 1) + 1) + 1) fun (x_30:Int)=>
 call1 (.int .u64) Tryz.prog 134 [.agg #[.int .u64 x_26,.int .u64 x_27,.int .u64 x_28,.int .u64 x_29,.int .u64 x_30]] fun (x_31:Int)=>
 exM fun m=>f93_l3 jn Q  m t6_b t6_o x7_b x7_o x_31 0 0):=by kernel_rfl
theorem f93_l1_raw {jn:Jn} {Q:Value -> WP} {m1:Nat} {all2:Int} {w3_b w3_o ghosts4_b ghosts4_o t6_b t6_o x7_b x7_o:Nat} {i8:Int}:f93_l1 jn Q  (m1 + 1) all2 w3_b w3_o ghosts4_b ghosts4_o t6_b t6_o x7_b x7_o i8 = (
 ite2 (decide (i8 < 5)) (
 drawW fun S=>
 when ((0:Int) <= i8 /\ i8 < ((5:Nat):Int)) <|
 ldS S (.int .u64) w3_b (w3_o + (i8).toNat * 1) fun (x_21:Int)=>
 when ((0:Int) <= i8 /\ i8 < ((5:Nat):Int)) <|
 ld (.int .i64) ghosts4_b (ghosts4_o + (i8).toNat * 1) fun (x_22:Int)=>
 keepS true S <|
 call1 (.int .i64) Tryz.prog 133 [.int .i64 x_22,.int .i64 all2] fun (x_23:Int)=>
 keepS true S <|
 call1 (.int .u64) Tryz.prog 132 [.int .i64 x_23] fun (x_24:Int)=>
 keepS true S <|
 call1 (.int .u64) Tryz.prog 131 [.int .u64 x_21,.int .u64 x_24] fun (x_25:Int)=>
 when ((0:Int) <= i8 /\ i8 < ((5:Nat):Int)) <|
 st x7_b (x7_o + (i8).toNat * 1) (.int .u64 x_25) <|
 f93_l1 jn Q  m1 all2 w3_b w3_o ghosts4_b ghosts4_o t6_b t6_o x7_b x7_o (IntKind.wrap .i64 (i8 + 1))) (
 f93_j2 jn Q  t6_b t6_o x7_b x7_o)):=by kernel_rfl
theorem f93_raw {jn:Jn} {w0_0 w0_1 w0_2 w0_3 w0_4 ghosts1_0 ghosts1_1 ghosts1_2 ghosts1_3 ghosts1_4 all2:Int} {Q:Value -> WP}:funJ jn Tryz.prog f93_kp Tryz.f93 [.agg #[.int .u64 w0_0,.int .u64 w0_1,.int .u64 w0_2,.int .u64 w0_3,.int .u64 w0_4],.agg #[.int .i64 ghosts1_0,.int .i64 ghosts1_1,.int .i64 ghosts1_2,.int .i64 ghosts1_3,.int .i64 ghosts1_4],.int .i64 all2] Q = (
 newB [.int .u64 w0_0,.int .u64 w0_1,.int .u64 w0_2,.int .u64 w0_3,.int .u64 w0_4] 88 fun b_1=>
 newB [.int .i64 ghosts1_0,.int .i64 ghosts1_1,.int .i64 ghosts1_2,.int .i64 ghosts1_3,.int .i64 ghosts1_4] 121 fun b_2=>
 newB [.int .u64 0,.int .u64 0,.int .u64 0,.int .u64 0,.int .u64 0] 88 fun b_3=>
 ld (.int .u64) b_1 0 fun (x_4:Int)=>
 ld (.int .u64) b_1 1 fun (x_5:Int)=>
 ld (.int .u64) b_1 2 fun (x_6:Int)=>
 ld (.int .u64) b_1 3 fun (x_7:Int)=>
 ld (.int .u64) b_1 4 fun (x_8:Int)=>
 call1 .bool Tryz.prog 130 [.agg #[.int .u64 x_4,.int .u64 x_5,.int .u64 x_6,.int .u64 x_7,.int .u64 x_8]] fun (x_9:Bool)=>
 ite2 (!x_9) (
 fun w=>Calls Tryz.prog 28 #[] w fun e w'=>∃ x_10:Int,∃ x_11:Int,∃ x_12:Int,∃ x_13:Int,∃ x_14:Int,e = .returned (.agg #[.int .u64 x_10,.int .u64 x_11,.int .u64 x_12,.int .u64 x_13,.int .u64 x_14]) /\ (
 st b_3 0 (.int .u64 x_10) <|
 st b_3 1 (.int .u64 x_11) <|
 st b_3 2 (.int .u64 x_12) <|
 st b_3 3 (.int .u64 x_13) <|
 st b_3 4 (.int .u64 x_14) <|
 ld (.int .u64) b_3 0 fun (x_15:Int)=>
 ld (.int .u64) b_3 1 fun (x_16:Int)=>
 ld (.int .u64) b_3 2 fun (x_17:Int)=>
 ld (.int .u64) b_3 3 fun (x_18:Int)=>
 ld (.int .u64) b_3 4 fun (x_19:Int)=>
 Q (.agg #[.int .u64 x_15,.int .u64 x_16,.int .u64 x_17,.int .u64 x_18,.int .u64 x_19])) w') (
 newB [.int .u64 0,.int .u64 0,.int .u64 0,.int .u64 0,.int .u64 0] 88 fun b_20=>
 exM fun m=>f93_l1 jn Q  m all2 b_1 0 b_2 0 b_3 0 b_20 0 0)):=by kernel_rfl
theorem f93_ok:FnOk Tryz.prog 93 Tryz.f93:=⟨mixed,Tryz.func93,rfl⟩
def f94_kp:KP:=⟨[(9,[1,2,5,6]),(18,[])],[]⟩
noncomputable def f94_b (l:List Nat):Code:=cAtN l (bodyOf Tryz.f94)
def f94_r (Q:Value -> WP):Env -> WP:=retK Tryz.prog Tryz.f94 Q
def f94_e2 (jn:Jn) (Q:Value -> WP):Env -> WP:=seqK Tryz.prog f94_kp jn (f94_b [1,1,1]) (f94_r Q) noX (f94_r Q)
def f94_j2_c (jn:Jn) (Q:Value -> WP):Env -> WP:=codeI Tryz.prog f94_kp jn (f94_b [1,1,1]) (f94_r Q) noX (f94_r Q)
def f94_j2 (jn:Jn) (Q:Value -> WP):WP:=jn 18 (f94_j2_c jn Q ) (us 21 [])
def f94_l1 (jn:Jn) (Q:Value -> WP) (m1:Nat) (draw1:Int) (w2_b w2_o:Nat) (n5 i6:Int):WP:=lop Tryz.prog f94_kp jn (f94_b [1,1,0,1,0,0]) (blkX 0 (f94_e2 jn Q) noX) (f94_r Q) m1 (us 1 ((.int .u32 draw1)::(.pointer (some ⟨w2_b,w2_o,none⟩))::us 2 ((.int .u64 n5)::(.int .i64 i6)::us 14 [])))
theorem f94_j2_raw {jn:Jn} {Q:Value -> WP}:f94_j2_c jn Q  (us 21 []) = (
 Q (.int .i64 4)):=by kernel_rfl
theorem f94_l1_raw {jn:Jn} {Q:Value -> WP} {m1:Nat} {draw1:Int} {w2_b w2_o:Nat} {n5 i6:Int}:f94_l1 jn Q  (m1 + 1) draw1 w2_b w2_o n5 i6 = (
 ite2 (decide (i6 < 5)) (
 when ((0:Int) <= i6 /\ i6 < ((5:Nat):Int)) <|
 ld (.int .u64) w2_b (w2_o + (i6).toNat * 1) fun (x_2:Int)=>
 ite2 (decide ((IntKind.wrap .u64 (n5 + x_2)) > (IntKind.wrap .u64 draw1))) (
 Q (.int .i64 i6)) (
 f94_l1 jn Q  m1 draw1 w2_b w2_o (IntKind.wrap .u64 (n5 + x_2)) (IntKind.wrap .i64 (i6 + 1)))) (
 f94_j2 jn Q  )):=by kernel_rfl
theorem f94_raw {jn:Jn} {w0_0 w0_1 w0_2 w0_3 w0_4 draw1:Int} {Q:Value -> WP}:funJ jn Tryz.prog f94_kp Tryz.f94 [.agg #[.int .u64 w0_0,.int .u64 w0_1,.int .u64 w0_2,.int .u64 w0_3,.int .u64 w0_4],.int .u32 draw1] Q = (
 newB [.int .u64 w0_0,.int .u64 w0_1,.int .u64 w0_2,.int .u64 w0_3,.int .u64 w0_4] 88 fun b_1=>
 exM fun m=>f94_l1 jn Q  m draw1 b_1 0 0 0):=by kernel_rfl
theorem f94_ok:FnOk Tryz.prog 94 Tryz.f94:=⟨mixed,Tryz.func94,rfl⟩
def f95_kp:KP:=⟨[],[(2,[0,1,2,3,4,5,6,8,9]),(4,[0,1,2,3,4,5,6,8,9,11])]⟩
theorem f95_raw {jn:Jn} {t0:Option Addr} {Q:Value -> WP}:funJ jn Tryz.prog f95_kp Tryz.f95 [.pointer t0] Q = (
 nilck t0 fun b_1 o_2=>
 ld (.int .i64) b_1 (o_2 + 1) fun (x_3:Int)=>
 nilck t0 fun b_4 o_5=>
 st b_4 (o_5 + 1) (.int .i64 (IntKind.wrap .i64 (x_3 + 1))) <|
 drawW fun S=>
 nilck t0 fun b_6 o_7=>
 ldS S (.int .i64) b_6 (o_7 + 1) fun (x_8:Int)=>
 nilck t0 fun b_9 o_10=>
 ld .slc b_9 o_10 fun (x_11:Sl)=>
 keepS true S <|
 ite2 (decide (x_8 > (x_11.n:Int))) (
 Q (.int .u32 0)) (
 drawW fun S=>
 nilck t0 fun b_12 o_13=>
 ldS S .slc b_12 o_13 fun (x_14:Sl)=>
 nilck t0 fun b_15 o_16=>
 ld (.int .i64) b_15 (o_16 + 1) fun (x_17:Int)=>
 keepS true S <|
 idx x_14.a x_14.n (IntKind.wrap .i64 (x_17 - 1)) fun b_18 o_19=>
 ld (.int .u32) b_18 (o_19 + ((IntKind.wrap .i64 (x_17 - (1:Int)))).toNat * 1) fun (x_20:Int)=>
 Q (.int .u32 x_20))):=by kernel_rfl
theorem f95_ok:FnOk Tryz.prog 95 Tryz.f95:=⟨mixed,Tryz.func95,rfl⟩
def f96_kp:KP:=⟨[],[]⟩
theorem f96_raw {jn:Jn} {m0:Option Addr} {kind1:Int} {Q:Value -> WP}:funJ jn Tryz.prog f96_kp Tryz.f96 [.pointer m0,.int .i64 kind1] Q = (
 nilck m0 fun b_1 o_2=>
 ld .ptr b_1 o_2 fun (x_3:Option Addr)=>
 call1 (.int .i64) Tryz.prog 45 [.pointer x_3] fun (x_4:Int)=>
 call2 .ptr (.int .i64) Tryz.prog 58 [.int .i64 kind1,.int .i64 x_4] fun (x_5:Option Addr) (x_6:Int)=>
 ite2 (x_6 != 0) (
 Q (.int .i64 x_6)) (
 call1 (.int .i64) Tryz.prog 136 [.pointer m0] fun (x_7:Int)=>
 nilck m0 fun b_8 o_9=>
 ld .ptr b_8 o_9 fun (x_10:Option Addr)=>
 nilck m0 fun b_11 o_12=>
 st b_11 (o_12 + 1) (.pointer x_10) <|
 nilck m0 fun b_13 o_14=>
 st b_13 o_14 (.pointer x_5) <|
 Q (.int .i64 0))):=by kernel_rfl
theorem f96_ok:FnOk Tryz.prog 96 Tryz.f96:=⟨mixed,Tryz.func96,rfl⟩
def f97_kp:KP:=⟨[(11,[0,1,5]),(16,[0,1,5])],[(7,[0,1,2,3,4,5,6,7,8,9,10,11,15,16,17,18,19])]⟩
noncomputable def f97_b (l:List Nat):Code:=cAtN l (bodyOf Tryz.f97)
def f97_r (Q:Value -> WP):Env -> WP:=retK Tryz.prog Tryz.f97 Q
def f97_e4 (jn:Jn) (Q:Value -> WP):Env -> WP:=seqK Tryz.prog f97_kp jn (f97_b [1,1,1,1,1]) (f97_r Q) noX (f97_r Q)
def f97_j2_c (jn:Jn) (Q:Value -> WP):Env -> WP:=codeI Tryz.prog f97_kp jn (f97_b [1,1,1,1,1]) (f97_r Q) noX (f97_r Q)
def f97_j2 (jn:Jn) (Q:Value -> WP) (m0:Option Addr) (room1:Int) (l5:Sl):WP:=jn 16 (f97_j2_c jn Q ) ((.pointer m0)::(.int .i64 room1)::us 3 ((.slice l5.a l5.n l5.c)::us 41 []))
def f97_l1 (jn:Jn) (Q:Value -> WP) (m1:Nat) (m0:Option Addr) (room1:Int) (l5:Sl):WP:=lop Tryz.prog f97_kp jn (f97_b [1,1,1,1,0,0,0]) (blkX 0 (f97_e4 jn Q) noX) (f97_r Q) m1 ((.pointer m0)::(.int .i64 room1)::us 3 ((.slice l5.a l5.n l5.c)::us 41 []))
theorem f97_j2_raw {jn:Jn} {Q:Value -> WP} {m0:Option Addr} {room1:Int} {l5:Sl}:f97_j2_c jn Q  ((.pointer m0)::(.int .i64 room1)::us 3 ((.slice l5.a l5.n l5.c)::us 41 [])) = (
 drawW fun S=>
 nilck m0 fun b_7 o_8=>
 ldS S .ptr b_7 o_8 fun (x_9:Option Addr)=>
 nilck x_9 fun b_10 o_11=>
 ldS S (.int .i64) b_10 o_11 fun (x_12:Int)=>
 nilck m0 fun b_13 o_14=>
 ld .ptr b_13 o_14 fun (x_15:Option Addr)=>
 keepS true S <|
 call1 .slc Tryz.prog 129 [.pointer x_15] fun (x_16:Sl)=>
 keepS true S <|
 call2 .ptr (.int .i64) Tryz.prog 138 [.int .i64 x_12,.int .i64 room1,.slice x_16.a x_16.n x_16.c] fun (x_17:Option Addr) (x_18:Int)=>
 nilck m0 fun b_19 o_20=>
 st b_19 o_20 (.pointer x_17) <|
 Q (.slice l5.a l5.n l5.c)):=by kernel_rfl
theorem f97_l1_raw {jn:Jn} {Q:Value -> WP} {m1:Nat} {m0:Option Addr} {room1:Int} {l5:Sl}:f97_l1 jn Q  (m1 + 1) m0 room1 l5 = (
 call1 (.int .i64) Tryz.prog 86 [.pointer m0] fun (x_2:Int)=>
 ite2 (decide (x_2 > room1)) (
 call2 .str .bool Tryz.prog 137 [.pointer m0] fun (x_3:ByteArray) (x_4:Bool)=>
 newB [.string x_3] 9 fun b_5=>
 appendC 9 1 16 [.string str_empty] ⟨l5.a,l5.n,l5.c⟩ 1 (fun w=>rdA w (some ⟨b_5,0,none⟩) (1 * 1)) fun s_6=>
 f97_l1 jn Q  m1 m0 room1 s_6) (
 f97_j2 jn Q  m0 room1 l5)):=by kernel_rfl
theorem f97_raw {jn:Jn} {m0:Option Addr} {room1:Int} {Q:Value -> WP}:funJ jn Tryz.prog f97_kp Tryz.f97 [.pointer m0,.int .i64 room1] Q = (
 call1 (.int .i64) Tryz.prog 136 [.pointer m0] fun (x_1:Int)=>
 exM fun m=>f97_l1 jn Q  m m0 (if 1024 < (if 1 > room1 then 1 else room1) then 1024 else (if 1 > room1 then 1 else room1)) ⟨none,0,0⟩):=by kernel_rfl
theorem f97_ok:FnOk Tryz.prog 97 Tryz.f97:=⟨mixed,Tryz.func97,rfl⟩
def f98_kp:KP:=⟨[],[]⟩
theorem f98_raw {jn:Jn} {room0:Int} {Q:Value -> WP}:funJ jn Tryz.prog f98_kp Tryz.f98 [.int .i64 room0] Q = (
 newB [.slice none 0 0,.slice none 0 0,.slice none 0 0,.slice none 0 0,.int .i64 0,.int .i64 (if 1024 < (if 1 > room0 then 1 else room0) then 1024 else (if 1 > room0 then 1 else room0))] 194 fun b_1=>
 Q (.pointer (some ⟨b_1,0,none⟩))):=by kernel_rfl
theorem f98_ok:FnOk Tryz.prog 98 Tryz.f98:=⟨mixed,Tryz.func98,rfl⟩
def f99_kp:KP:=⟨[],[]⟩
theorem f99_raw {jn:Jn} {room0:Int} {Q:Value -> WP}:funJ jn Tryz.prog f99_kp Tryz.f99 [.int .i64 room0] Q = (
 newB [.slice none 0 0,.slice none 0 0,.int .i64 (if 1024 < (if 1 > room0 then 1 else room0) then 1024 else (if 1 > room0 then 1 else room0))] 197 fun b_1=>
 Q (.pointer (some ⟨b_1,0,none⟩))):=by kernel_rfl
theorem f99_ok:FnOk Tryz.prog 99 Tryz.f99:=⟨mixed,Tryz.func99,rfl⟩
def f100_kp:KP:=⟨[],[]⟩
theorem f100_raw {jn:Jn} {room0:Int} {Q:Value -> WP}:funJ jn Tryz.prog f100_kp Tryz.f100 [.int .i64 room0] Q = (
 newB [.slice none 0 0,.slice none 0 0,.slice none 0 0,.int .i64 (if 1024 < (if 1 > room0 then 1 else room0) then 1024 else (if 1 > room0 then 1 else room0))] 199 fun b_1=>
 Q (.pointer (some ⟨b_1,0,none⟩))):=by kernel_rfl
theorem f100_ok:FnOk Tryz.prog 100 Tryz.f100:=⟨mixed,Tryz.func100,rfl⟩
def f101_kp:KP:=⟨[],[]⟩
theorem f101_raw {jn:Jn} {room0:Int} {Q:Value -> WP}:funJ jn Tryz.prog f101_kp Tryz.f101 [.int .i64 room0] Q = (
 call1 .ptr Tryz.prog 139 [.int .i64 (if 1024 < (if 1 > room0 then 1 else room0) then 1024 else (if 1 > room0 then 1 else room0))] fun (x_1:Option Addr)=>
 call1 .ptr Tryz.prog 140 [.int .i64 (if 1024 < (if 1 > room0 then 1 else room0) then 1024 else (if 1 > room0 then 1 else room0))] fun (x_2:Option Addr)=>
 newB [.slice none 0 0,.slice none 0 0,.slice none 0 0,.pointer x_1,.pointer x_2,.int .i64 (if 1024 < (if 1 > room0 then 1 else room0) then 1024 else (if 1 > room0 then 1 else room0))] 203 fun b_3=>
 Q (.pointer (some ⟨b_3,0,none⟩))):=by kernel_rfl
theorem f101_ok:FnOk Tryz.prog 101 Tryz.f101:=⟨mixed,Tryz.func101,rfl⟩
def f102_kp:KP:=⟨[],[]⟩
theorem f102_raw {jn:Jn} {room0:Int} {Q:Value -> WP}:funJ jn Tryz.prog f102_kp Tryz.f102 [.int .i64 room0] Q = (
 newB [.slice none 0 0,.slice none 0 0,.slice none 0 0,.int .i64 (if 1024 < (if 1 > room0 then 1 else room0) then 1024 else (if 1 > room0 then 1 else room0))] 206 fun b_1=>
 Q (.pointer (some ⟨b_1,0,none⟩))):=by kernel_rfl
theorem f102_ok:FnOk Tryz.prog 102 Tryz.f102:=⟨mixed,Tryz.func102,rfl⟩
def f103_kp:KP:=⟨[],[]⟩
theorem f103_raw {jn:Jn} {room0:Int} {Q:Value -> WP}:funJ jn Tryz.prog f103_kp Tryz.f103 [.int .i64 room0] Q = (
 newB [.slice none 0 0,.int .i64 (if 1024 < (if 1 > room0 then 1 else room0) then 1024 else (if 1 > room0 then 1 else room0))] 217 fun b_1=>
 Q (.pointer (some ⟨b_1,0,none⟩))):=by kernel_rfl
theorem f103_ok:FnOk Tryz.prog 103 Tryz.f103:=⟨mixed,Tryz.func103,rfl⟩
def f104_kp:KP:=⟨[(12,[4])],[]⟩
noncomputable def f104_b (l:List Nat):Code:=cAtN l (bodyOf Tryz.f104)
def f104_r (Q:Value -> WP):Env -> WP:=retK Tryz.prog Tryz.f104 Q
def f104_j1_c (jn:Jn) (Q:Value -> WP):Env -> WP:=codeI Tryz.prog f104_kp jn (f104_b [1,1]) (f104_r Q) noX (f104_r Q)
def f104_j1 (jn:Jn) (Q:Value -> WP) (t4_b t4_o:Nat):WP:=jn 12 (f104_j1_c jn Q ) (us 4 ((.pointer (some ⟨t4_b,t4_o,none⟩))::us 22 []))
theorem f104_j1_raw {jn:Jn} {Q:Value -> WP} {t4_b t4_o:Nat}:f104_j1_c jn Q  (us 4 ((.pointer (some ⟨t4_b,t4_o,none⟩))::us 22 [])) = (
 newB [.string str_empty,.int .i64 0] 141 fun b_13=>
 ld .str b_13 0 fun (x_14:ByteArray)=>
 ld (.int .i64) b_13 1 fun (x_15:Int)=>
 st t4_b t4_o (.string x_14) <|
 st t4_b (t4_o + 1) (.int .i64 x_15) <|
 ld .str t4_b t4_o fun (x_16:ByteArray)=>
 ld (.int .i64) t4_b (t4_o + 1) fun (x_17:Int)=>
 Q (.tuple #[.agg #[.string x_16,.int .i64 x_17],.bool false])):=by kernel_rfl
theorem f104_raw {jn:Jn} {x0:Option Addr} {key1:ByteArray} {Q:Value -> WP}:funJ jn Tryz.prog f104_kp Tryz.f104 [.pointer x0,.string key1] Q = (
 newB [.string str_empty,.int .i64 0] 141 fun b_1=>
 ite2 (!Option.isNone x0) (
 call2 (.int .i64) .bool Tryz.prog 141 [.pointer x0,.string key1] fun (x_2:Int) (x_3:Bool)=>
 ite2 x_3 (
 nilck x0 fun b_4 o_5=>
 ld .slc b_4 (o_5 + 1) fun (x_6:Sl)=>
 idx x_6.a x_6.n x_2 fun b_7 o_8=>
 ld .str b_7 ((o_8 + (x_2).toNat * 4) + 2) fun (x_9:ByteArray)=>
 ld (.int .i64) b_7 (((o_8 + (x_2).toNat * 4) + 2) + 1) fun (x_10:Int)=>
 st b_1 0 (.string x_9) <|
 st b_1 1 (.int .i64 x_10) <|
 ld .str b_1 0 fun (x_11:ByteArray)=>
 ld (.int .i64) b_1 1 fun (x_12:Int)=>
 Q (.tuple #[.agg #[.string x_11,.int .i64 x_12],.bool true])) (
 f104_j1 jn Q  b_1 0)) (
 f104_j1 jn Q  b_1 0)):=by kernel_rfl
theorem f104_ok:FnOk Tryz.prog 104 Tryz.f104:=⟨mixed,Tryz.func104,rfl⟩
def f105_kp:KP:=⟨[],[]⟩
theorem f105_raw {jn:Jn} {v0_0:ByteArray} {v0_1 now1:Int} {Q:Value -> WP}:funJ jn Tryz.prog f105_kp Tryz.f105 [.agg #[.string v0_0,.int .i64 v0_1],.int .i64 now1] Q = (
 newB [.string v0_0,.int .i64 v0_1] 141 fun b_1=>
 ld (.int .i64) b_1 1 fun (x_2:Int)=>
 ite2 (x_2 != 0) (
 ld (.int .i64) b_1 1 fun (x_3:Int)=>
 Q (.bool (decide (x_3 <= now1)))) (
 Q (.bool false))):=by kernel_rfl
theorem f105_ok:FnOk Tryz.prog 105 Tryz.f105:=⟨mixed,Tryz.func105,rfl⟩
def f106_kp:KP:=⟨[],[]⟩
theorem f106_raw {jn:Jn} {x0:Option Addr} {key1:ByteArray} {Q:Value -> WP}:funJ jn Tryz.prog f106_kp Tryz.f106 [.pointer x0,.string key1] Q = (
 newB [.string str_empty,.int .i64 0] 141 fun b_1=>
 fun w=>Calls Tryz.prog 104 #[.pointer x0,.string key1] w fun e w'=>∃ x_2:ByteArray,∃ x_3:Int,∃ x_4:Bool,e = .returned (.tuple #[.agg #[.string x_2,.int .i64 x_3],.bool x_4]) /\ (
 newB [.string str_empty,.int .i64 0] 141 fun b_5=>
 st b_5 0 (.string x_2) <|
 st b_5 1 (.int .i64 x_3) <|
 ite2 x_4 (
 call2 (.int .i64) .bool Tryz.prog 141 [.pointer x0,.string key1] fun (x_6:Int) (x_7:Bool)=>
 nilck x0 fun b_8 o_9=>
 ld .slc b_8 (o_9 + 1) fun (x_10:Sl)=>
 idx x_10.a x_10.n x_6 fun b_11 o_12=>
 st b_11 (o_12 + (x_6).toNat * 4) (.int .i64 1) <|
 st b_11 ((o_12 + (x_6).toNat * 4) + 1) (.string str_empty) <|
 st b_11 (((o_12 + (x_6).toNat * 4) + 1) + 1) (.string str_empty) <|
 st b_11 ((((o_12 + (x_6).toNat * 4) + 1) + 1) + 1) (.int .i64 0) <|
 nilck x0 fun b_13 o_14=>
 ld (.int .i64) b_13 (o_14 + 2) fun (x_15:Int)=>
 nilck x0 fun b_16 o_17=>
 st b_16 (o_17 + 2) (.int .i64 (IntKind.wrap .i64 (x_15 - 1))) <|
 ld .str b_5 0 fun (x_18:ByteArray)=>
 ld (.int .i64) b_5 1 fun (x_19:Int)=>
 st b_1 0 (.string x_18) <|
 st b_1 1 (.int .i64 x_19) <|
 ld .str b_1 0 fun (x_20:ByteArray)=>
 ld (.int .i64) b_1 1 fun (x_21:Int)=>
 Q (.tuple #[.agg #[.string x_20,.int .i64 x_21],.bool x_4])) (
 ld .str b_5 0 fun (x_22:ByteArray)=>
 ld (.int .i64) b_5 1 fun (x_23:Int)=>
 st b_1 0 (.string x_22) <|
 st b_1 1 (.int .i64 x_23) <|
 ld .str b_1 0 fun (x_24:ByteArray)=>
 ld (.int .i64) b_1 1 fun (x_25:Int)=>
 Q (.tuple #[.agg #[.string x_24,.int .i64 x_25],.bool x_4]))) w'):=by kernel_rfl
theorem f106_ok:FnOk Tryz.prog 106 Tryz.f106:=⟨mixed,Tryz.func106,rfl⟩
def f107_kp:KP:=⟨[(8,[0]),(11,[0,14,15]),(22,[])],[]⟩
noncomputable def f107_b (l:List Nat):Code:=cAtN l (bodyOf Tryz.f107)
def f107_r (Q:Value -> WP):Env -> WP:=retK Tryz.prog Tryz.f107 Q
def f107_e4 (jn:Jn) (Q:Value -> WP):Env -> WP:=seqK Tryz.prog f107_kp jn (f107_b [1,1,1]) (f107_r Q) noX (f107_r Q)
def f107_j3_c (jn:Jn) (Q:Value -> WP):Env -> WP:=codeI Tryz.prog f107_kp jn (f107_b [1,1,1]) (f107_r Q) noX (f107_r Q)
def f107_j3 (jn:Jn) (Q:Value -> WP):WP:=jn 22 (f107_j3_c jn Q ) (us 49 [])
def f107_l2 (jn:Jn) (Q:Value -> WP) (m2:Nat) (s0:ByteArray) (t14 t15:Int):WP:=lop Tryz.prog f107_kp jn (f107_b [1,1,0,1,0,0]) (blkX 0 (f107_e4 jn Q) noX) (f107_r Q) m2 ((.string s0)::us 13 ((.int .i64 t14)::(.int .i64 t15)::us 33 []))
def f107_j1_c (jn:Jn) (Q:Value -> WP):Env -> WP:=codeI Tryz.prog f107_kp jn (f107_b [1,1]) (f107_r Q) noX (f107_r Q)
def f107_j1 (jn:Jn) (Q:Value -> WP) (s0:ByteArray):WP:=jn 8 (f107_j1_c jn Q ) ((.string s0)::us 48 [])
theorem f107_j3_raw {jn:Jn} {Q:Value -> WP}:f107_j3_c jn Q  (us 49 []) = (
 Q (.bool true)):=by kernel_rfl
theorem f107_l2_raw {jn:Jn} {Q:Value -> WP} {m2:Nat} {s0:ByteArray} {t14 t15:Int}:f107_l2 jn Q  (m2 + 1) s0 t14 t15 = (
 ite2 (decide (t15 < t14)) (
 when ((0:Int) <= t15 /\ t15 < (s0.size:Int)) <|
 ite2 (decide ((byteAt s0 (t15).toNat) < 97)) (
 ite2 (decide ((byteAt s0 (t15).toNat) < 65)) (
 ite2 (decide ((byteAt s0 (t15).toNat) < 48)) (
 call1 (.int .i64) Tryz.prog 142 [.string str______,.int .u8 (byteAt s0 (t15).toNat)] fun (x_1:Int)=>
 ite2 (decide (x_1 < 0)) (
 Q (.bool false)) (
 f107_l2 jn Q  m2 s0 t14 (IntKind.wrap .i64 (t15 + 1)))) (
 ite2 (decide ((byteAt s0 (t15).toNat) > 57)) (
 call1 (.int .i64) Tryz.prog 142 [.string str______,.int .u8 (byteAt s0 (t15).toNat)] fun (x_2:Int)=>
 ite2 (decide (x_2 < 0)) (
 Q (.bool false)) (
 f107_l2 jn Q  m2 s0 t14 (IntKind.wrap .i64 (t15 + 1)))) (
 f107_l2 jn Q  m2 s0 t14 (IntKind.wrap .i64 (t15 + 1))))) (
 ite2 (decide ((byteAt s0 (t15).toNat) > 90)) (
 ite2 (decide ((byteAt s0 (t15).toNat) < 48)) (
 call1 (.int .i64) Tryz.prog 142 [.string str______,.int .u8 (byteAt s0 (t15).toNat)] fun (x_3:Int)=>
 ite2 (decide (x_3 < 0)) (
 Q (.bool false)) (
 f107_l2 jn Q  m2 s0 t14 (IntKind.wrap .i64 (t15 + 1)))) (
 ite2 (decide ((byteAt s0 (t15).toNat) > 57)) (
 call1 (.int .i64) Tryz.prog 142 [.string str______,.int .u8 (byteAt s0 (t15).toNat)] fun (x_4:Int)=>
 ite2 (decide (x_4 < 0)) (
 Q (.bool false)) (
 f107_l2 jn Q  m2 s0 t14 (IntKind.wrap .i64 (t15 + 1)))) (
 f107_l2 jn Q  m2 s0 t14 (IntKind.wrap .i64 (t15 + 1))))) (
 f107_l2 jn Q  m2 s0 t14 (IntKind.wrap .i64 (t15 + 1))))) (
 ite2 (decide ((byteAt s0 (t15).toNat) > 122)) (
 ite2 (decide ((byteAt s0 (t15).toNat) < 65)) (
 ite2 (decide ((byteAt s0 (t15).toNat) < 48)) (
 call1 (.int .i64) Tryz.prog 142 [.string str______,.int .u8 (byteAt s0 (t15).toNat)] fun (x_5:Int)=>
 ite2 (decide (x_5 < 0)) (
 Q (.bool false)) (
 f107_l2 jn Q  m2 s0 t14 (IntKind.wrap .i64 (t15 + 1)))) (
 ite2 (decide ((byteAt s0 (t15).toNat) > 57)) (
 call1 (.int .i64) Tryz.prog 142 [.string str______,.int .u8 (byteAt s0 (t15).toNat)] fun (x_6:Int)=>
 ite2 (decide (x_6 < 0)) (
 Q (.bool false)) (
 f107_l2 jn Q  m2 s0 t14 (IntKind.wrap .i64 (t15 + 1)))) (
 f107_l2 jn Q  m2 s0 t14 (IntKind.wrap .i64 (t15 + 1))))) (
 ite2 (decide ((byteAt s0 (t15).toNat) > 90)) (
 ite2 (decide ((byteAt s0 (t15).toNat) < 48)) (
 call1 (.int .i64) Tryz.prog 142 [.string str______,.int .u8 (byteAt s0 (t15).toNat)] fun (x_7:Int)=>
 ite2 (decide (x_7 < 0)) (
 Q (.bool false)) (
 f107_l2 jn Q  m2 s0 t14 (IntKind.wrap .i64 (t15 + 1)))) (
 ite2 (decide ((byteAt s0 (t15).toNat) > 57)) (
 call1 (.int .i64) Tryz.prog 142 [.string str______,.int .u8 (byteAt s0 (t15).toNat)] fun (x_8:Int)=>
 ite2 (decide (x_8 < 0)) (
 Q (.bool false)) (
 f107_l2 jn Q  m2 s0 t14 (IntKind.wrap .i64 (t15 + 1)))) (
 f107_l2 jn Q  m2 s0 t14 (IntKind.wrap .i64 (t15 + 1))))) (
 f107_l2 jn Q  m2 s0 t14 (IntKind.wrap .i64 (t15 + 1))))) (
 f107_l2 jn Q  m2 s0 t14 (IntKind.wrap .i64 (t15 + 1))))) (
 f107_j3 jn Q  )):=by kernel_rfl
theorem f107_j1_raw {jn:Jn} {Q:Value -> WP} {s0:ByteArray}:f107_j1_c jn Q  ((.string s0)::us 48 []) = (
 exM fun m=>f107_l2 jn Q  m s0 (s0.size:Int) 0):=by kernel_rfl
theorem f107_raw {jn:Jn} {s0:ByteArray} {Q:Value -> WP}:funJ jn Tryz.prog f107_kp Tryz.f107 [.string s0] Q = (
 ite2 (decide ((s0.size:Int) < 1)) (
 Q (.bool false)) (
 ite2 (decide ((s0.size:Int) > 24)) (
 Q (.bool false)) (
 f107_j1 jn Q  s0))):=by kernel_rfl
theorem f107_ok:FnOk Tryz.prog 107 Tryz.f107:=⟨mixed,Tryz.func107,rfl⟩
def f108_kp:KP:=⟨[],[(5,[0,1,2,3,4,6,7]),(8,[0,1,2,3,4,5,6,7,9,10])]⟩
theorem f108_raw {jn:Jn} {x0:Option Addr} {key1 v2_0:ByteArray} {v2_1:Int} {Q:Value -> WP}:funJ jn Tryz.prog f108_kp Tryz.f108 [.pointer x0,.string key1,.agg #[.string v2_0,.int .i64 v2_1]] Q = (
 newB [.string v2_0,.int .i64 v2_1] 141 fun b_1=>
 ite2 (Option.isNone x0) (
 Q (.bool false)) (
 call2 (.int .i64) .bool Tryz.prog 141 [.pointer x0,.string key1] fun (x_2:Int) (x_3:Bool)=>
 ite2 x_3 (
 drawW fun S=>
 nilck x0 fun b_4 o_5=>
 ldS S .slc b_4 (o_5 + 1) fun (x_6:Sl)=>
 ld .str b_1 0 fun (x_7:ByteArray)=>
 ld (.int .i64) b_1 1 fun (x_8:Int)=>
 keepS true S <|
 idx x_6.a x_6.n x_2 fun b_9 o_10=>
 st b_9 ((o_10 + (x_2).toNat * 4) + 2) (.string x_7) <|
 st b_9 (((o_10 + (x_2).toNat * 4) + 2) + 1) (.int .i64 x_8) <|
 Q (.bool false)) (
 ld .str b_1 0 fun (x_11:ByteArray)=>
 ld (.int .i64) b_1 1 fun (x_12:Int)=>
 call0 Tryz.prog 143 [.pointer x0,.int .i64 x_2,.string key1,.agg #[.string x_11,.int .i64 x_12]] <|
 drawW fun S=>
 nilck x0 fun b_13 o_14=>
 ldS S (.int .i64) b_13 (o_14 + 3) fun (x_15:Int)=>
 nilck x0 fun b_16 o_17=>
 ld .slc b_16 (o_17 + 1) fun (x_18:Sl)=>
 keepS true S <|
 ite2 (decide ((IntKind.wrap .i64 (2 * x_15)) > (x_18.n:Int))) (
 call0 Tryz.prog 144 [.pointer x0] <|
 Q (.bool true)) (
 Q (.bool true))))):=by kernel_rfl
theorem f108_ok:FnOk Tryz.prog 108 Tryz.f108:=⟨mixed,Tryz.func108,rfl⟩
def f109_kp:KP:=⟨[],[]⟩
theorem f109_raw {jn:Jn} {x0:Option Addr} {Q:Value -> WP}:funJ jn Tryz.prog f109_kp Tryz.f109 [.pointer x0] Q = (
 ite2 (Option.isNone x0) (
 Q (.int .i64 0)) (
 nilck x0 fun b_1 o_2=>
 ld (.int .i64) b_1 (o_2 + 2) fun (x_3:Int)=>
 Q (.int .i64 x_3))):=by kernel_rfl
theorem f109_ok:FnOk Tryz.prog 109 Tryz.f109:=⟨mixed,Tryz.func109,rfl⟩
def f110_kp:KP:=⟨[],[]⟩
theorem f110_raw {jn:Jn} {x0:Int} {Q:Value -> WP}:funJ jn Tryz.prog f110_kp Tryz.f110 [.int .u64 x0] Q = (
 when ((0:Int) <= (30:Int)) <|
 when ((0:Int) <= (27:Int)) <|
 when ((0:Int) <= (31:Int)) <|
 Q (.int .u64 (bits .xor .u64 (IntKind.wrap .u64 ((bits .xor .u64 (IntKind.wrap .u64 ((bits .xor .u64 x0 (shrV .u64 x0 30)) * 13787848793156543929)) (shrV .u64 (IntKind.wrap .u64 ((bits .xor .u64 x0 (shrV .u64 x0 30)) * 13787848793156543929)) 27)) * 10723151780598845931)) (shrV .u64 (IntKind.wrap .u64 ((bits .xor .u64 (IntKind.wrap .u64 ((bits .xor .u64 x0 (shrV .u64 x0 30)) * 13787848793156543929)) (shrV .u64 (IntKind.wrap .u64 ((bits .xor .u64 x0 (shrV .u64 x0 30)) * 13787848793156543929)) 27)) * 10723151780598845931)) 31)))):=by kernel_rfl
theorem f110_ok:FnOk Tryz.prog 110 Tryz.f110:=⟨mixed,Tryz.func110,rfl⟩
def f111_kp:KP:=⟨[],[]⟩
theorem f111_raw {jn:Jn} {h0 rate1:Int} {Q:Value -> WP}:funJ jn Tryz.prog f111_kp Tryz.f111 [.int .u64 h0,.int .i64 rate1] Q = (
 Q (.bool (decide ((IntKind.wrap .i64 (bits .and .u64 h0 16777215)) < rate1)))):=by kernel_rfl
theorem f111_ok:FnOk Tryz.prog 111 Tryz.f111:=⟨mixed,Tryz.func111,rfl⟩
def f112_kp:KP:=⟨[(11,[0,1,5,6,7]),(18,[0,5,6])],[]⟩
noncomputable def f112_b (l:List Nat):Code:=cAtN l (bodyOf Tryz.f112)
def f112_r (Q:Value -> WP):Env -> WP:=retK Tryz.prog Tryz.f112 Q
def f112_e3 (jn:Jn) (Q:Value -> WP):Env -> WP:=seqK Tryz.prog f112_kp jn (f112_b [1,1,1,1]) (f112_r Q) noX (f112_r Q)
def f112_j2_c (jn:Jn) (Q:Value -> WP):Env -> WP:=codeI Tryz.prog f112_kp jn (f112_b [1,1,1,1]) (f112_r Q) noX (f112_r Q)
def f112_j2 (jn:Jn) (Q:Value -> WP) (g0:Option Addr) (was5:Bool) (l6:Sl):WP:=jn 18 (f112_j2_c jn Q ) ((.pointer g0)::us 4 ((.bool was5)::(.slice l6.a l6.n l6.c)::us 37 []))
def f112_l1 (jn:Jn) (Q:Value -> WP) (m1:Nat) (g0:Option Addr) (key1:ByteArray) (was5:Bool) (l6:Sl) (i7:Int):WP:=lop Tryz.prog f112_kp jn (f112_b [1,1,1,0,1,0,0]) (blkX 0 (f112_e3 jn Q) noX) (f112_r Q) m1 ((.pointer g0)::(.string key1)::us 3 ((.bool was5)::(.slice l6.a l6.n l6.c)::(.int .i64 i7)::us 36 []))
theorem f112_j2_raw {jn:Jn} {Q:Value -> WP} {g0:Option Addr} {was5:Bool} {l6:Sl}:f112_j2_c jn Q  ((.pointer g0)::us 4 ((.bool was5)::(.slice l6.a l6.n l6.c)::us 37 [])) = (
 nilck g0 fun b_19 o_20=>
 st b_19 o_20 (.slice l6.a l6.n l6.c) <|
 Q (.bool was5)):=by kernel_rfl
theorem f112_l1_raw {jn:Jn} {Q:Value -> WP} {m1:Nat} {g0:Option Addr} {key1:ByteArray} {was5:Bool} {l6:Sl} {i7:Int}:f112_l1 jn Q  (m1 + 1) g0 key1 was5 l6 i7 = (
 nilck g0 fun b_2 o_3=>
 ld .slc b_2 o_3 fun (x_4:Sl)=>
 ite2 (decide (i7 < (x_4.n:Int))) (
 nilck g0 fun b_5 o_6=>
 ld .slc b_5 o_6 fun (x_7:Sl)=>
 idx x_7.a x_7.n i7 fun b_8 o_9=>
 ld .str b_8 (o_9 + (i7).toNat * 1) fun (x_10:ByteArray)=>
 ite2 (!sEq x_10 key1) (
 nilck g0 fun b_11 o_12=>
 ld .slc b_11 o_12 fun (x_13:Sl)=>
 idx x_13.a x_13.n i7 fun b_14 o_15=>
 ld .str b_14 (o_15 + (i7).toNat * 1) fun (x_16:ByteArray)=>
 newB [.string x_16] 9 fun b_17=>
 appendC 9 1 16 [.string str_empty] ⟨l6.a,l6.n,l6.c⟩ 1 (fun w=>rdA w (some ⟨b_17,0,none⟩) (1 * 1)) fun s_18=>
 f112_l1 jn Q  m1 g0 key1 was5 s_18 (IntKind.wrap .i64 (i7 + 1))) (
 f112_l1 jn Q  m1 g0 key1 was5 l6 (IntKind.wrap .i64 (i7 + 1)))) (
 f112_j2 jn Q  g0 was5 l6)):=by kernel_rfl
theorem f112_raw {jn:Jn} {g0:Option Addr} {key1:ByteArray} {Q:Value -> WP}:funJ jn Tryz.prog f112_kp Tryz.f112 [.pointer g0,.string key1] Q = (
 call1 .bool Tryz.prog 145 [.pointer g0,.string key1] fun (x_1:Bool)=>
 exM fun m=>f112_l1 jn Q  m g0 key1 x_1 ⟨none,0,0⟩ 0):=by kernel_rfl
theorem f112_ok:FnOk Tryz.prog 112 Tryz.f112:=⟨mixed,Tryz.func112,rfl⟩
def f113_kp:KP:=⟨[(10,[2,3,6])],[]⟩
noncomputable def f113_b (l:List Nat):Code:=cAtN l (bodyOf Tryz.f113)
def f113_r (Q:Value -> WP):Env -> WP:=retK Tryz.prog Tryz.f113 Q
def f113_j1_c (jn:Jn) (Q:Value -> WP):Env -> WP:=codeI Tryz.prog f113_kp jn (f113_b [1,1,1]) (f113_r Q) noX (f113_r Q)
def f113_j1 (jn:Jn) (Q:Value -> WP) (ghost2:Bool) (c3_b c3_o t6_b t6_o:Nat):WP:=jn 10 (f113_j1_c jn Q ) (us 2 ((.bool ghost2)::(.pointer (some ⟨c3_b,c3_o,none⟩))::us 2 ((.pointer (some ⟨t6_b,t6_o,none⟩))::us 15 [])))
theorem f113_j1_raw {jn:Jn} {Q:Value -> WP} {ghost2:Bool} {c3_b c3_o t6_b t6_o:Nat}:f113_j1_c jn Q  (us 2 ((.bool ghost2)::(.pointer (some ⟨c3_b,c3_o,none⟩))::us 2 ((.pointer (some ⟨t6_b,t6_o,none⟩))::us 15 []))) = (
 ite2 ghost2 (
 ld (.int .i64) c3_b (c3_o + 2) fun (x_7:Int)=>
 call1 (.int .i64) Tryz.prog 73 [.int .i64 x_7,.int .i64 1099511627776] fun (x_8:Int)=>
 st c3_b (c3_o + 2) (.int .i64 x_8) <|
 ld (.int .i64) c3_b c3_o fun (x_9:Int)=>
 ld (.int .i64) c3_b (c3_o + 1) fun (x_10:Int)=>
 ld (.int .i64) c3_b ((c3_o + 1) + 1) fun (x_11:Int)=>
 st t6_b t6_o (.int .i64 x_9) <|
 st t6_b (t6_o + 1) (.int .i64 x_10) <|
 st t6_b ((t6_o + 1) + 1) (.int .i64 x_11) <|
 ld (.int .i64) t6_b t6_o fun (x_12:Int)=>
 ld (.int .i64) t6_b (t6_o + 1) fun (x_13:Int)=>
 ld (.int .i64) t6_b ((t6_o + 1) + 1) fun (x_14:Int)=>
 Q (.agg #[.int .i64 x_12,.int .i64 x_13,.int .i64 x_14])) (
 ld (.int .i64) c3_b c3_o fun (x_15:Int)=>
 ld (.int .i64) c3_b (c3_o + 1) fun (x_16:Int)=>
 ld (.int .i64) c3_b ((c3_o + 1) + 1) fun (x_17:Int)=>
 st t6_b t6_o (.int .i64 x_15) <|
 st t6_b (t6_o + 1) (.int .i64 x_16) <|
 st t6_b ((t6_o + 1) + 1) (.int .i64 x_17) <|
 ld (.int .i64) t6_b t6_o fun (x_18:Int)=>
 ld (.int .i64) t6_b (t6_o + 1) fun (x_19:Int)=>
 ld (.int .i64) t6_b ((t6_o + 1) + 1) fun (x_20:Int)=>
 Q (.agg #[.int .i64 x_18,.int .i64 x_19,.int .i64 x_20]))):=by kernel_rfl
theorem f113_raw {jn:Jn} {c0_0 c0_1 c0_2:Int} {hit1 ghost2:Bool} {Q:Value -> WP}:funJ jn Tryz.prog f113_kp Tryz.f113 [.agg #[.int .i64 c0_0,.int .i64 c0_1,.int .i64 c0_2],.bool hit1,.bool ghost2] Q = (
 newB [.int .i64 c0_0,.int .i64 c0_1,.int .i64 c0_2] 167 fun b_1=>
 newB [.int .i64 0,.int .i64 0,.int .i64 0] 167 fun b_2=>
 ld (.int .i64) b_1 0 fun (x_3:Int)=>
 call1 (.int .i64) Tryz.prog 73 [.int .i64 x_3,.int .i64 1099511627776] fun (x_4:Int)=>
 st b_1 0 (.int .i64 x_4) <|
 ite2 hit1 (
 ld (.int .i64) b_1 1 fun (x_5:Int)=>
 call1 (.int .i64) Tryz.prog 73 [.int .i64 x_5,.int .i64 1099511627776] fun (x_6:Int)=>
 st b_1 1 (.int .i64 x_6) <|
 f113_j1 jn Q  ghost2 b_1 0 b_2 0) (
 f113_j1 jn Q  ghost2 b_1 0 b_2 0)):=by kernel_rfl
theorem f113_ok:FnOk Tryz.prog 113 Tryz.f113:=⟨mixed,Tryz.func113,rfl⟩
def f114_kp:KP:=⟨[],[(3,[0,1,2,3,4,5,6,7,9])]⟩
theorem f114_raw {jn:Jn} {g0:Option Addr} {key1:ByteArray} {Q:Value -> WP}:funJ jn Tryz.prog f114_kp Tryz.f114 [.pointer g0,.string key1] Q = (
 call1 .bool Tryz.prog 112 [.pointer g0,.string key1] fun (x_1:Bool)=>
 nilck g0 fun b_2 o_3=>
 ld .slc b_2 o_3 fun (x_4:Sl)=>
 newB [.string key1] 9 fun b_5=>
 appendC 9 1 16 [.string str_empty] ⟨x_4.a,x_4.n,x_4.c⟩ 1 (fun w=>rdA w (some ⟨b_5,0,none⟩) (1 * 1)) fun s_6=>
 nilck g0 fun b_7 o_8=>
 st b_7 o_8 (.slice s_6.a s_6.n s_6.c) <|
 drawW fun S=>
 nilck g0 fun b_9 o_10=>
 ldS S .slc b_9 o_10 fun (x_11:Sl)=>
 nilck g0 fun b_12 o_13=>
 ld (.int .i64) b_12 (o_13 + 1) fun (x_14:Int)=>
 keepS true S <|
 ite2 (decide ((x_11.n:Int) > x_14)) (
 nilck g0 fun b_15 o_16=>
 ld .slc b_15 o_16 fun (x_17:Sl)=>
 idx x_17.a x_17.n 0 fun b_18 o_19=>
 ld .str b_18 (o_19 + ((0:Int)).toNat * 1) fun (x_20:ByteArray)=>
 newB [] 9 fun b_21=>
 nilck g0 fun b_22 o_23=>
 ld .slc b_22 o_23 fun (x_24:Sl)=>
 when ((0:Int) <= (1:Int) /\ (1:Int) <= (x_24.n:Int)) <|
 appendC 9 1 16 [.string str_empty] ⟨(some ⟨b_21,0,none⟩),0,0⟩ (x_24.n - ((1:Int)).toNat) (fun w=>rdA w (subA x_24.a (((1:Int)).toNat) x_24.c 1) ((x_24.n - ((1:Int)).toNat) * 1)) fun s_25=>
 nilck g0 fun b_26 o_27=>
 st b_26 o_27 (.slice s_25.a s_25.n s_25.c) <|
 Q (.tuple #[.string x_20,.bool true])) (
 Q (.tuple #[.string str_empty,.bool false]))):=by kernel_rfl
theorem f114_ok:FnOk Tryz.prog 114 Tryz.f114:=⟨mixed,Tryz.func114,rfl⟩
def f115_kp:KP:=⟨[],[]⟩
theorem f115_raw {jn:Jn} {e0:Option Addr} {key1:ByteArray} {Q:Value -> WP}:funJ jn Tryz.prog f115_kp Tryz.f115 [.pointer e0,.string key1] Q = (
 nilck e0 fun b_1 o_2=>
 ld (.int .i64) b_1 o_2 fun (x_3:Int)=>
 ite2 (x_3 == 0) (
 nilck e0 fun b_4 o_5=>
 ld .ptr b_4 (o_5 + 1) fun (x_6:Option Addr)=>
 call1 .bool Tryz.prog 146 [.pointer x_6,.string key1] fun (x_7:Bool)=>
 Q (.bool x_7)) (
 ite2 (x_3 == 1) (
 nilck e0 fun b_8 o_9=>
 ld .ptr b_8 (o_9 + 2) fun (x_10:Option Addr)=>
 call1 .bool Tryz.prog 147 [.pointer x_10,.string key1] fun (x_11:Bool)=>
 Q (.bool x_11)) (
 ite2 (x_3 == 2) (
 nilck e0 fun b_12 o_13=>
 ld .ptr b_12 (o_13 + 3) fun (x_14:Option Addr)=>
 call1 .bool Tryz.prog 148 [.pointer x_14,.string key1] fun (x_15:Bool)=>
 Q (.bool x_15)) (
 ite2 (x_3 == 3) (
 nilck e0 fun b_16 o_17=>
 ld .ptr b_16 (o_17 + 4) fun (x_18:Option Addr)=>
 call1 .bool Tryz.prog 149 [.pointer x_18,.string key1] fun (x_19:Bool)=>
 Q (.bool x_19)) (
 nilck e0 fun b_20 o_21=>
 ld .ptr b_20 (o_21 + 5) fun (x_22:Option Addr)=>
 call1 .bool Tryz.prog 150 [.pointer x_22,.string key1] fun (x_23:Bool)=>
 Q (.bool x_23)))))):=by kernel_rfl
theorem f115_ok:FnOk Tryz.prog 115 Tryz.f115:=⟨mixed,Tryz.func115,rfl⟩
def f116_kp:KP:=⟨[],[]⟩
theorem f116_raw {jn:Jn} {e0:Option Addr} {key1:ByteArray} {Q:Value -> WP}:funJ jn Tryz.prog f116_kp Tryz.f116 [.pointer e0,.string key1] Q = (
 nilck e0 fun b_1 o_2=>
 ld (.int .i64) b_1 o_2 fun (x_3:Int)=>
 ite2 (x_3 == 0) (
 nilck e0 fun b_4 o_5=>
 ld .ptr b_4 (o_5 + 1) fun (x_6:Option Addr)=>
 call1 .bool Tryz.prog 151 [.pointer x_6,.string key1] fun (x_7:Bool)=>
 Q (.bool x_7)) (
 ite2 (x_3 == 1) (
 nilck e0 fun b_8 o_9=>
 ld .ptr b_8 (o_9 + 2) fun (x_10:Option Addr)=>
 call1 .bool Tryz.prog 152 [.pointer x_10,.string key1] fun (x_11:Bool)=>
 Q (.bool x_11)) (
 ite2 (x_3 == 2) (
 nilck e0 fun b_12 o_13=>
 ld .ptr b_12 (o_13 + 3) fun (x_14:Option Addr)=>
 call1 .bool Tryz.prog 153 [.pointer x_14,.string key1] fun (x_15:Bool)=>
 Q (.bool x_15)) (
 ite2 (x_3 == 3) (
 nilck e0 fun b_16 o_17=>
 ld .ptr b_16 (o_17 + 4) fun (x_18:Option Addr)=>
 call1 .bool Tryz.prog 154 [.pointer x_18,.string key1] fun (x_19:Bool)=>
 Q (.bool x_19)) (
 nilck e0 fun b_20 o_21=>
 ld .ptr b_20 (o_21 + 5) fun (x_22:Option Addr)=>
 call1 .bool Tryz.prog 155 [.pointer x_22,.string key1] fun (x_23:Bool)=>
 Q (.bool x_23)))))):=by kernel_rfl
theorem f116_ok:FnOk Tryz.prog 116 Tryz.f116:=⟨mixed,Tryz.func116,rfl⟩
def f117_kp:KP:=⟨[],[]⟩
theorem f117_raw {jn:Jn} {e0:Option Addr} {key1:ByteArray} {Q:Value -> WP}:funJ jn Tryz.prog f117_kp Tryz.f117 [.pointer e0,.string key1] Q = (
 nilck e0 fun b_1 o_2=>
 ld (.int .i64) b_1 o_2 fun (x_3:Int)=>
 ite2 (x_3 == 0) (
 nilck e0 fun b_4 o_5=>
 ld .ptr b_4 (o_5 + 1) fun (x_6:Option Addr)=>
 call1 .bool Tryz.prog 156 [.pointer x_6,.string key1] fun (x_7:Bool)=>
 Q (.bool x_7)) (
 ite2 (x_3 == 1) (
 nilck e0 fun b_8 o_9=>
 ld .ptr b_8 (o_9 + 2) fun (x_10:Option Addr)=>
 call1 .bool Tryz.prog 157 [.pointer x_10,.string key1] fun (x_11:Bool)=>
 Q (.bool x_11)) (
 ite2 (x_3 == 2) (
 nilck e0 fun b_12 o_13=>
 ld .ptr b_12 (o_13 + 3) fun (x_14:Option Addr)=>
 call1 .bool Tryz.prog 158 [.pointer x_14,.string key1] fun (x_15:Bool)=>
 Q (.bool x_15)) (
 ite2 (x_3 == 3) (
 nilck e0 fun b_16 o_17=>
 ld .ptr b_16 (o_17 + 4) fun (x_18:Option Addr)=>
 call1 .bool Tryz.prog 159 [.pointer x_18,.string key1] fun (x_19:Bool)=>
 Q (.bool x_19)) (
 nilck e0 fun b_20 o_21=>
 ld .ptr b_20 (o_21 + 5) fun (x_22:Option Addr)=>
 call1 .bool Tryz.prog 160 [.pointer x_22,.string key1] fun (x_23:Bool)=>
 Q (.bool x_23)))))):=by kernel_rfl
theorem f117_ok:FnOk Tryz.prog 117 Tryz.f117:=⟨mixed,Tryz.func117,rfl⟩
def f118_kp:KP:=⟨[],[]⟩
theorem f118_raw {jn:Jn} {e0:Option Addr} {Q:Value -> WP}:funJ jn Tryz.prog f118_kp Tryz.f118 [.pointer e0] Q = (
 call1 .slc Tryz.prog 129 [.pointer e0] fun (x_1:Sl)=>
 Q (.int .i64 (x_1.n:Int))):=by kernel_rfl
theorem f118_ok:FnOk Tryz.prog 118 Tryz.f118:=⟨mixed,Tryz.func118,rfl⟩
def f119_kp:KP:=⟨[],[(3,[0,1,2,3,5,6,7,8,9,10,11,12,13,14,15,17,18,19,20,21,23,24,25,26,28,29])]⟩
theorem f119_raw {jn:Jn} {e0:Option Addr} {Q:Value -> WP}:funJ jn Tryz.prog f119_kp Tryz.f119 [.pointer e0] Q = (
 call1 (.int .i64) Tryz.prog 161 [.pointer e0] fun (x_1:Int)=>
 ite2 (x_1 == 0) (
 Q (.tuple #[.string str_empty,.bool false])) (
 drawW fun S=>
 nilck e0 fun b_2 o_3=>
 ld .slc b_2 o_3 fun (x_4:Sl)=>
 keepS true S <|
 ite2 (decide ((x_4.n:Int) > 0)) (
 nilck e0 fun b_5 o_6=>
 ldS S .slc b_5 o_6 fun (x_7:Sl)=>
 nilck e0 fun b_8 o_9=>
 ld (.int .i64) b_8 (o_9 + 4) fun (x_10:Int)=>
 keepS true S <|
 ite2 (decide ((x_7.n:Int) > x_10)) (
 call1 .str Tryz.prog 162 [.pointer e0,.bool true] fun (x_11:ByteArray)=>
 Q (.tuple #[.string x_11,.bool true])) (
 nilck e0 fun b_12 o_13=>
 ld .slc b_12 (o_13 + 1) fun (x_14:Sl)=>
 call1 .str Tryz.prog 162 [.pointer e0,.bool ((x_14.n:Int) == 0)] fun (x_15:ByteArray)=>
 Q (.tuple #[.string x_15,.bool true]))) (
 keepS true S <|
 call1 .str Tryz.prog 162 [.pointer e0,.bool false] fun (x_16:ByteArray)=>
 Q (.tuple #[.string x_16,.bool true])))):=by kernel_rfl
theorem f119_ok:FnOk Tryz.prog 119 Tryz.f119:=⟨mixed,Tryz.func119,rfl⟩
def f120_kp:KP:=⟨[(12,[0])],[]⟩
noncomputable def f120_b (l:List Nat):Code:=cAtN l (bodyOf Tryz.f120)
def f120_r (Q:Value -> WP):Env -> WP:=retK Tryz.prog Tryz.f120 Q
def f120_j1_c (jn:Jn) (Q:Value -> WP):Env -> WP:=codeI Tryz.prog f120_kp jn (f120_b [1,1,1]) (f120_r Q) noX (f120_r Q)
def f120_j1 (jn:Jn) (Q:Value -> WP) (e0:Option Addr):WP:=jn 12 (f120_j1_c jn Q ) ((.pointer e0)::us 40 [])
theorem f120_j1_raw {jn:Jn} {Q:Value -> WP} {e0:Option Addr}:f120_j1_c jn Q  ((.pointer e0)::us 40 []) = (
 nilck e0 fun b_5 o_6=>
 ld .slc b_5 (o_6 + 1) fun (x_7:Sl)=>
 idx x_7.a x_7.n 0 fun b_8 o_9=>
 ld .str b_8 (o_9 + ((0:Int)).toNat * 1) fun (x_10:ByteArray)=>
 call0 Tryz.prog 165 [.pointer e0,.string x_10] <|
 call1 (.int .i64) Tryz.prog 166 [.pointer e0,.string x_10] fun (x_11:Int)=>
 ite2 (decide (x_11 >= 0)) (
 nilck e0 fun b_12 o_13=>
 ld .slc b_12 o_13 fun (x_14:Sl)=>
 idx x_14.a x_14.n x_11 fun b_15 o_16=>
 st b_15 ((o_16 + (x_11).toNat * 2) + 1) (.int .u8 103) <|
 call0 Tryz.prog 167 [.pointer e0] <|
 Q (.tuple #[.string x_10,.bool true])) (
 call0 Tryz.prog 167 [.pointer e0] <|
 Q (.tuple #[.string x_10,.bool true]))):=by kernel_rfl
theorem f120_raw {jn:Jn} {e0:Option Addr} {Q:Value -> WP}:funJ jn Tryz.prog f120_kp Tryz.f120 [.pointer e0] Q = (
 call1 (.int .i64) Tryz.prog 163 [.pointer e0] fun (x_1:Int)=>
 ite2 (x_1 == 0) (
 Q (.tuple #[.string str_empty,.bool false])) (
 nilck e0 fun b_2 o_3=>
 ld .slc b_2 (o_3 + 1) fun (x_4:Sl)=>
 ite2 ((x_4.n:Int) == 0) (
 call0 Tryz.prog 164 [.pointer e0] <|
 f120_j1 jn Q  e0) (
 f120_j1 jn Q  e0))):=by kernel_rfl
theorem f120_ok:FnOk Tryz.prog 120 Tryz.f120:=⟨mixed,Tryz.func120,rfl⟩
end Go.Proofs.YtmefopmnjncdbaaGreat
