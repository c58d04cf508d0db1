/- A part of the proof of what the last text says: XcE, Ks1, Ks2, Ks3, Ks4, Ke1, Em0, Ke2, Ke3, Ke4, XcM, XcN, Kg1, Kg2, Kg3, Kg4, Kg5, Gw3, XcH, Gm3, Gw4, Gm4, Gm5, Gv1, Gv2, Gv3, Gk1. Conditions: those in each theorem. -/
import Derived.Test.YtgopigkdcmhbbaaGreatDoorU5
import Derived.Shelf.Strings.Builder1
import Derived.TacticsIn
import Derived.Lib.UnsafeStr
import Derived.Shelf.RegionOpenPlain
set_option autoImplicit true
set_option relaxedAutoImplicit true
set_option linter.unusedVariables false
set_option linter.unusedSimpArgs false
set_option maxRecDepth 100000
set_option maxHeartbeats 16000000
open List renaming getD_eq_getElem?_getD -> Ma,getElem?_eq_getElem -> Mb,getD_cons_succ -> Mc,getD_cons_zero -> Md,getElem?_map -> Me,length_append -> Mi,length_cons -> Mj,length_nil -> Ml,getElem?_cons_zero -> Mm,mem_of_getElem? -> Mn,map_append -> Mo,append_assoc -> Mp,mem_cons -> Mt,getElem?_eq_none -> Mu,length_take -> Mv,append_nil -> Mw,nil_append -> Mx,map_map -> My,map_congr_left -> Mz,not_mem_nil -> M0
open Option renaming getD_some -> Mf
open Int renaming cast_ofNat_Int -> Mg,toNat_natCast -> Mh
open Nat renaming le_trans -> Mq,le_refl -> Mr,lt_or_ge -> Ms,reduceSub -> qa,reduceAdd -> qb,reduceMul -> qc,reduceEqDiff -> qd,reduceLeDiff -> qe,reduceBEq -> qf
noncomputable section
namespace Go.Proofs.YtgopigkdcmhbbaaGreatDoor
open Go.Xs
open Go Go.Aw
noncomputable def UY:=yy Tryz.f15
def V15:=PLift.up (aI (aI (aI (@unf (UY 20) (F [u,u,u,u,u,y 66,y 66,y 66,u,u,y 71,y 71,y 71,v,u]) rfl) (@unf (UY 12) (X (R [u,u,u,z 31,z 31,u,u,z 35,z 35,u,u,z 39,z 39,z 39,u,u,z 44,z 44,z 44,z 44,u,u,z 50,z 50,z 50,u,u,z 55,z 55,z 55,z 55,z 55,u] (T (F [u]))) (UY 20)) rfl)) (aI (@unf (UY 10) (R [u,v,u] (UY 12)) rfl) (@unf (UY 8) (R [u,u,u,v,v,u,u,u] (UY 10)) rfl))) (aI (aI (@unf (UY 6) (R [u,u,u,v,v,u,u,u] (UY 8)) rfl) (@unf (UY 4) (R [u,u,u,v,v,u,u] (UY 6)) rfl)) (aI (@unf (UY 2) (R [u,u,v,u,u] (UY 4)) rfl) (@unf (UY 0) (R [u] (UY 2)) rfl))))
theorem ik:type_of% V15.down:=V15.down
theorem b15:Bt 15 76 (UY 0) [(.tmp 0)]:=bt Tryz.func15 rfl
noncomputable def fV:=yy Tryz.f21
def V21:=PLift.up (aI (aI (@unf (fV 7) (T (F [v,u,u])) rfl) (@unf (fV 20) (F [u,v,u,u]) rfl)) (aI (@unf (fV 12) (X (R [u,u,u,u] (T (F [u,u]))) (fV 20)) rfl) (aI (@unf (fV 2) (X (R [u,v,u] (R [u,u] (fV 7))) (fV 12)) rfl) (@unf (fV 0) (R [u,u,u] (fV 2)) rfl))))
theorem D4:type_of% V21.down:=V21.down
theorem b21:Bt 21 16 (fV 0) [(.tmp 2),(.tmp 3)]:=bt Tryz.func21 rfl
noncomputable def QZ:=yy Tryz.f36
def x36_G0:XC:=(.block 1 (.regT [6] [([f 26 6 3 33],c (.load 23 (t 33)) 34,false)] [m 7 35,a (.indexAddr 22 (t 35) (i 0)) 36,l 3 36 37,m 7 38,a (.indexAddr 22 (t 38) (i 1)) 39,l 3 39 40,a (.build 64 #[(0,(t 37)),(1,(t 40))]) 41,a (.buildSlice 23 1 #[(0,(t 41))]) 42,b (.call ⟨(.builtin .append),#[t 34,t 42],#[23,23]⟩) 43,f 26 6 3 44] [w 23 44 43]))
def x36_s2:XC:=(.seq (.block 3 (.regT [6,4] [([f 26 6 4 74],c (.load 24 (t 74)) 75,false),([m 4 76],k1 76 76 122 77,false)] [a (.buildSlice 24 1 #[(0,(t 77))]) 78,b (.call ⟨(.builtin .append),#[t 75,t 78],#[24,24]⟩) 79,f 26 6 4 80] [w 24 80 79])) (QZ 31))
def x36_L3:XC:=(.seq (.seq (QZ 24) (C 71 .skip (.exit 2))) x36_s2)
def x36_s12:XC:=(.seq (QZ 16) (.seq (R [A 0 11] (.block 2 (.loop x36_L3))) (QZ 32)))
def x36_s13:XC:=(.seq (QZ 14) x36_s12)
def x36_s14:XC:=(.seq (.seq (.gh (.reg [m 4 29,a (k 73 #[t 29,(i (-1)),i 2] #[122,3,3]) 30,a (k 74 #[t 30,i 2] #[22,3]) 31])) (.block 0 (.rgf (t 31) 32 7 x36_G0))) x36_s13)
def x36_s15:XC:=(.seq (.regT [] [([m 5 19,a (.indexAddr 22 (t 19) (i 0)) 20,l 3 20 21,m 5 22,a (.indexAddr 22 (t 22) (i 1)) 23,l 3 23 24,m 5 25,a (.indexAddr 22 (t 25) (i 2)) 26,l 3 26 27],b (.build 26 #[(0,(t 21)),(1,(t 24)),(2,(t 27))]) 28,false),([],a (.alloc 26) 6,false)] [] [w 26 6 28]) x36_s14)
def x36_s16:XC:=(R [m 4 17,b (k 73 #[t 17,i 3,i 1] #[122,3,3]) 18,n 18 5] x36_s15)
def x36_s17:XC:=(.seq (QZ 3) x36_s16)
def UX:XC:=(R [a (.alloc 26) 2,A 0 3] x36_s17)
def V36r:=PLift.up (aI (aI (@unf (QZ 24) (r [u,u,u,u,y 61,y 61,u,u,y 65,y 65,y 65,y 65,y 65,u]) rfl) (@unf (QZ 16) (r [u,u,u,u]) rfl)) (aI (@unf (QZ 14) (r [u,u,u,u,u,u,v,v,v,u,u,u]) rfl) (@unf (QZ 3) (r [u,u,v,u]) rfl)))
theorem vC:type_of% V36r.down:=V36r.down
def V36:=PLift.up (aI (aI (aI (aI (@unf _ _ x36_G0.eq_1) (@unf (QZ 31) (r [u,v,u]) rfl)) (aI (@unf _ _ x36_s2.eq_1) (@unf _ _ x36_L3.eq_1))) (aI (aI (@unf (QZ 41) (T (F [v,u,u])) rfl) (@unf (QZ 51) (T (F [v,u,u])) rfl)) (aI (@unf (QZ 56) (F [v,u,u]) rfl) (aI (@unf (QZ 48) (X (R [u,u,u,z 108,z 108,z 108,z 108,u] (QZ 51)) (QZ 56)) rfl) (@unf (QZ 46) (R [u,u,u,v,v,u,u] (QZ 48)) rfl))))) (aI (aI (aI (@unf (QZ 38) (X (R [u,u,u,u] (QZ 41)) (QZ 46)) rfl) (@unf (QZ 34) (R [u,u,u,u] (R [v,u,u] (QZ 38))) rfl)) (aI (@unf (QZ 32) (R [u,u,u,u,u,u,v,v,v,u,u,u] (QZ 34)) rfl) (@unf _ _ x36_s12.eq_1))) (aI (aI (@unf _ _ x36_s13.eq_1) (@unf _ _ x36_s14.eq_1)) (aI (@unf _ _ x36_s15.eq_1) (aI (@unf _ _ x36_s16.eq_1) (@unf _ _ x36_s17.eq_1))))))
theorem WJ:type_of% V36.down:=V36.down
theorem b36:Bt 36 116 UX [(.cell 2 26),(.tmp 3)]:=bt Tryz.func36 rfl
noncomputable def Vj:=yy Tryz.f14
def V14:=PLift.up (aI (aI (aI (@unf (Vj 30) (r [u,v,u]) rfl) (@unf (Vj 21) (X (O (X (G [u,u,u,u,u,u,u,u,u,u,u]) (T (F [u])))) (Vj 30)) rfl)) (aI (@unf (Vj 15) (X (R [u,u,u,u,u] I) (Vj 21)) rfl) (@unf (Vj 51) (r [u,v,u]) rfl))) (aI (aI (@unf (Vj 42) (X (O (X (G [u,u,u,u,u,u,u,u,u,u,u,u]) (T (F [u])))) (Vj 51)) rfl) (@unf (Vj 36) (X (R [u,u,u,u,u] I) (Vj 42)) rfl)) (aI (@unf (Vj 31) (X (R [u] (U (Vj 36))) (F [u])) rfl) (aI (@unf (Vj 2) (X (R [u,u,u,u,u,u,z 12,z 12,z 12,z 12,z 12,u,u,z 19,z 19,z 19,z 19,z 19,u,u,z 26,z 26,z 26,z 26,z 26,u,u,z 33,z 33,z 33,z 33,z 33,z 33,z 33,u,u,z 42,z 42,z 42,z 42,z 42,z 42,z 42,u] (T (F [u]))) (X (R [u] (U (Vj 15))) (Vj 31))) rfl) (@unf (Vj 0) (R [u,u,u] (Vj 2)) rfl)))))
theorem nC:type_of% V14.down:=V14.down
theorem tY:Bt 14 88 (Vj 0) [(.tmp 4)]:=bt Tryz.func14 rfl
noncomputable def cf:=yy Tryz.f38
def V38:=PLift.up (aI (aI (@unf (cf 30) (r [u,v,u]) rfl) (aI (@unf (cf 21) (X (O (X (G [u,u,u,u,u,u,u,u,u]) (T (F [u])))) (cf 30)) rfl) (@unf (cf 15) (X (R [u,u,u,u] I) (cf 21)) rfl))) (aI (@unf (cf 10) (X (R [u] (U (cf 15))) (F [u])) rfl) (aI (@unf (cf 2) (X (R [u,u,u,u,u] (T (F [u]))) (cf 10)) rfl) (@unf (cf 0) (R [u] (cf 2)) rfl))))
theorem pV:type_of% V38.down:=V38.down
theorem b38:Bt 38 26 (cf 0) [(.tmp 4)]:=bt Tryz.func38 rfl
noncomputable def ci:=yy Tryz.f10
def V10:=PLift.up (aI (aI (@unf (ci 5) (T (F [v,u,u])) rfl) (aI (@unf (ci 15) (T (F [v,v,u,u])) rfl) (@unf (ci 20) (F [u,u,u,v,u,u]) rfl))) (aI (@unf (ci 10) (R [u,u,u,u,u,u,v,v,u,u,u] (X (R [u,u] (ci 15)) (ci 20))) rfl) (aI (@unf (ci 2) (X (R [u,u,u] (ci 5)) (ci 10)) rfl) (@unf (ci 0) (R [u,u,u] (ci 2)) rfl))))
theorem mG:type_of% V10.down:=V10.down
theorem YT:Bt 10 26 (ci 0) [(.cell 2 35),(.tmp 3)]:=bt Tryz.func10 rfl
noncomputable def ca:=yy Tryz.f37
def V37:=PLift.up (aI (aI (@unf (ca 22) (r [x,u,u,u,u,u,u,u,v,u]) rfl) (aI (@unf (ca 19) (R [u,u,u] (T (ca 22))) rfl) (@unf (ca 15) (X (O (R [v,u,v,u,u,u] (ca 19))) (r [u,u])) rfl))) (aI (@unf (ca 9) (R [u] (X I (ca 15))) rfl) (aI (@unf (ca 4) (X (R [u,u,u,u] (U (ca 9))) (F [v,u])) rfl) (@unf (ca 0) (R [u,u] (R [u] (ca 4))) rfl))))
theorem Ak:type_of% V37.down:=V37.down
theorem b37:Bt 37 28 (ca 0) [(.tmp 2)]:=bt Tryz.func37 rfl
noncomputable def fR:=yy Tryz.f73
def x73_c1:XC:=(R [m 1 45,a (.call ⟨(.builtin .max),#[t 45,i 0],#[3,3]⟩) 46,b (.makeSlice 22 (t 46) (t 46)) 47,n 47 6] .ret)
def x73_s2:XC:=(.seq (.seq (fR 14) (C 44 x73_c1 .skip)) (R [M 7 48,n 48 6] .ret))
def x73_s3:XC:=(.seq (.seq (fR 8) (fR 9)) x73_s2)
def x73_s4:XC:=(.seq (fR 5) x73_s3)
def x73_s5:XC:=(.seq (fR 3) x73_s4)
def x73:XC:=(R [Z 6] x73_s5)
def V73r:=PLift.up (aI (aI (@unf (fR 14) (r [u,u,u,u]) rfl) (@unf (fR 8) (r [u,u,u,y 25,y 25,y 25,y 25,u,u,z 31,z 31,z 31,z 31,z 31,u]) rfl)) (aI (@unf (fR 5) (r [u,u,u,u]) rfl) (@unf (fR 3) (r [u,u,u,u,u,u,v,v,v,u,u,u]) rfl)))
theorem pR:type_of% V73r.down:=V73r.down
def V73:=PLift.up (aI (aI (@unf (fR 9) (T (r [u,u,u,u])) rfl) (aI (@unf _ _ x73_c1.eq_1) (@unf _ _ x73_s2.eq_1))) (aI (@unf _ _ x73_s3.eq_1) (aI (@unf _ _ x73_s4.eq_1) (@unf _ _ x73_s5.eq_1))))
theorem FV:type_of% V73.down:=V73.down
theorem b73:Bt 73 49 x73 [(.tmp 6)]:=bt Tryz.func73 rfl
noncomputable def xu:=yy Tryz.f74
def V74:=PLift.up (aI (@unf (xu 5) (T (r [u,u])) rfl) (aI (@unf (xu 2) (X (R [u,u] (xu 5)) (F [v,u])) rfl) (@unf (xu 0) (R [u,u,u] (xu 2)) rfl)))
theorem U74:type_of% V74.down:=V74.down
noncomputable def u9:=yy Tryz.f49
def V49:=PLift.up (aI (aI (aI (aI (@unf (u9 5) (T (F [u,u,u])) rfl) (@unf (u9 36) (T (F [u,u,u])) rfl)) (aI (@unf (u9 34) (R [u,u,u,y 35,y 35,y 35,y 35,y 35,y 35,v,u] (u9 36)) rfl) (@unf (u9 30) (V (F [u,u,u]) (u9 34)) rfl))) (aI (aI (@unf (u9 28) (R [u,u,u,v,u] (u9 30)) rfl) (@unf (u9 24) (V (F [u,u,u]) (u9 28)) rfl)) (aI (@unf (u9 58) (r [u,u,u,u,u,u,v,u]) rfl) (aI (@unf (u9 54) (X (O (R [u,v,u] (u9 58))) (r [u,u])) rfl) (@unf (u9 48) (R [u] (X I (u9 54))) rfl))))) (aI (aI (aI (@unf (u9 63) (T (F [u,u,u])) rfl) (@unf (u9 71) (T (r [u,v,u])) rfl)) (aI (@unf (u9 74) (F [u,v,u,v,u,u,u]) rfl) (aI (@unf (u9 60) (X (R [u,u,u] (u9 63)) (X (R [u,u] (u9 71)) (u9 74))) rfl) (@unf (u9 43) (X (R [u,u,u,u,u,u] (U (u9 48))) (u9 60)) rfl)))) (aI (aI (@unf (u9 20) (X (O (R [u,v,u] (u9 24))) (R [u] (u9 43))) rfl) (@unf (u9 18) (R [u,u,u,u,u,u,v,u] (u9 20)) rfl)) (aI (@unf (u9 12) (X (R [u,u,u,u] (T (r [u]))) (u9 18)) rfl) (aI (@unf (u9 2) (X (R [u,u,u] (u9 5)) (R [u] (u9 12))) rfl) (@unf (u9 0) (R [u,u,u] (u9 2)) rfl))))))
theorem U49:type_of% V49.down:=V49.down
theorem b49:Bt 49 71 (u9 0) [(.tmp 2),(.tmp 3),(.tmp 4)]:=bt Tryz.func49 rfl
noncomputable def D1:=yy Tryz.f75
def V75:=PLift.up (aI (@unf (D1 2) (r [u,u,u,u,u,u,z 20,z 20,v,u,u,u]) rfl) (@unf (D1 0) (R [u,u,u,u,u,u,v,u,u,u] (D1 2)) rfl))
theorem U75:type_of% V75.down:=V75.down
theorem b75:Bt 75 26 (D1 0) []:=bt Tryz.func75 rfl
noncomputable def xH:=yy Tryz.f76
def x76_G0:XC:=(.block 1 (.regT [4] [([f 71 4 3 49],c (.load 67 (t 49)) 50,false)] [m 5 51,a (.indexAddr 22 (t 51) (i 0)) 52,l 3 52 53,m 5 54,a (.indexAddr 22 (t 54) (i 1)) 55,l 3 55 56,m 5 57,a (.indexAddr 22 (t 57) (i 2)) 58,l 3 58 59,a (.build 66 #[(0,(t 53)),(1,(t 56)),(2,(t 59))]) 60,a (.buildSlice 67 1 #[(0,(t 60))]) 61,b (.call ⟨(.builtin .append),#[t 50,t 61],#[67,67]⟩) 62,f 71 4 3 63] [w 67 63 62]))
def x76_s2:XC:=(.seq (.regT [4] [([m 6 84,a (.indexAddr 31 (t 84) (i 0)) 85,L 9 85 86,m 6 87,a (.indexAddr 31 (t 87) (i 1)) 88,L 9 88 89,f 71 4 5 90],w 9 90 86,false)] [] [f 71 4 6 91,w 9 91 89]) (R [L 71 4 92,w 71 2 92] .ret))
def x76_s3:XC:=(.seq (R [m 6 77,e 31 77 78,q .neq 3 78 2 79] (C 79 (xH 19) .skip)) x76_s2)
def x76_s4:XC:=(.seq (xH 14) x76_s3)
def x76_s5:XC:=(.seq (xH 12) x76_s4)
def x76_s6:XC:=(.seq (.seq (.gh (.reg [m 0 45,a (k 73 #[t 45,(i (-1)),i 3] #[122,3,3]) 46,a (k 74 #[t 46,i 3] #[22,3]) 47])) (.block 0 (.rgf (t 47) 48 5 x76_G0))) x76_s5)
def x76_s7:XC:=(.seq (.regT [] [([m 3 11,a (.indexAddr 22 (t 11) (i 0)) 12,l 3 12 13,m 3 14,a (.indexAddr 22 (t 14) (i 1)) 15,l 3 15 16,m 3 17,a (.indexAddr 22 (t 17) (i 2)) 18,l 3 18 19,m 3 20,a (.indexAddr 22 (t 20) (i 3)) 21,l 3 21 22,a (.build 66 #[(0,(t 16)),(1,(t 19)),(2,(t 22))]) 23,m 3 24,a (.indexAddr 22 (t 24) (i 4)) 25,l 3 25 26,m 3 27,a (.indexAddr 22 (t 27) (i 5)) 28,l 3 28 29,m 3 30,a (.indexAddr 22 (t 30) (i 6)) 31,l 3 31 32,a (.build 66 #[(0,(t 26)),(1,(t 29)),(2,(t 32))]) 33,m 3 34,a (.indexAddr 22 (t 34) (i 7)) 35,l 3 35 36,m 3 37,a (.indexAddr 22 (t 37) (i 8)) 38,l 3 38 39,m 3 40,a (.indexAddr 22 (t 40) (i 9)) 41,l 3 41 42,a (.build 69 #[(0,(t 39)),(1,(t 42))]) 43],b (.build 71 #[(0,(t 13)),(1,(t 23)),(2,(t 33)),(4,(t 36)),(7,(t 43))]) 44,false),([],a (.alloc 71) 4,false)] [] [w 71 4 44]) x76_s6)
def x76_s8:XC:=(R [m 0 9,b (k 73 #[t 9,i 10,i 1] #[122,3,3]) 10,n 10 3] x76_s7)
def x76:XC:=(R [a (.alloc 71) 2] x76_s8)
def V76r:=PLift.up (aI (@unf (xH 14) (r [u,u,u,u]) rfl) (@unf (xH 12) (r [u,u,u,u,u,u,v,v,v,u,u,u]) rfl))
theorem Yb:type_of% V76r.down:=V76r.down
def V76:=PLift.up (aI (aI (aI (@unf _ _ x76_G0.eq_1) (@unf (xH 19) (R [u,u,u,u] (F [v,u])) rfl)) (aI (@unf _ _ x76_s2.eq_1) (@unf _ _ x76_s3.eq_1))) (aI (aI (@unf _ _ x76_s4.eq_1) (@unf _ _ x76_s5.eq_1)) (aI (@unf _ _ x76_s6.eq_1) (aI (@unf _ _ x76_s7.eq_1) (@unf _ _ x76_s8.eq_1)))))
theorem rC:type_of% V76.down:=V76.down
theorem b76:Bt 76 93 x76 [(.cell 2 71)]:=bt Tryz.func76 rfl
noncomputable def ng:=yy Tryz.f77
def V77:=PLift.up (aI (aI (@unf (ng 7) (T (F [v,u,u,u])) rfl) (@unf (ng 12) (F [u,u,u,u,u,u,v,u,u,v,u,u,u]) rfl)) (aI (@unf (ng 2) (R [u,u,u,v,v,v,u,u,u] (X (R [u,u] (ng 7)) (ng 12))) rfl) (@unf (ng 0) (R [u,u,u] (ng 2)) rfl)))
theorem Dk:type_of% V77.down:=V77.down
theorem b77:Bt 77 27 (ng 0) [(.tmp 2),(.tmp 3),(.tmp 4)]:=bt Tryz.func77 rfl
noncomputable def D0:=yy Tryz.f35
def V35:=PLift.up (aI (@unf (D0 2) (F [u,u,u,u,u,u,y 10,y 10,y 10,y 10,y 10,u,u,y 17,y 17,y 17,y 17,y 17,u,u,y 24,y 24,y 24,y 24,y 24,u,u,y 31,y 31,y 31,y 31,y 31,u,u,y 38,y 38,y 38,y 38,y 38,u,u,y 45,y 45,y 45,y 45,y 45,u,u,y 52,y 52,y 52,y 52,y 52,v,u]) rfl) (@unf (D0 0) (R [u,u,u] (D0 2)) rfl))
theorem U35:type_of% V35.down:=V35.down
theorem b35:Bt 35 59 (D0 0) [(.tmp 4)]:=bt Tryz.func35 rfl
noncomputable def uf:=yy Tryz.f116
def V116:=PLift.up (aI (aI (aI (@unf (uf 7) (T (F [v,u,u,u])) rfl) (@unf (uf 34) (T (F [v,u,u,u])) rfl)) (aI (@unf (uf 39) (r [x,u,u,v,v,u,u]) rfl) (aI (@unf (uf 27) (X (O (R [u,u,u,v,v,v,u,u,u] (X (R [u,u] (uf 34)) (uf 39)))) (r [u,u])) rfl) (@unf (uf 21) (R [u] (X I (uf 27))) rfl)))) (aI (aI (@unf (uf 41) (F [v,v,u,u,u]) rfl) (@unf (uf 14) (R [u] (X (R [u,u] (U (uf 21))) (uf 41))) rfl)) (aI (@unf (uf 12) (R [u,u,v,u] (uf 14)) rfl) (aI (@unf (uf 2) (R [u,u,u,v,v,v,u,u,u] (X (R [u,u] (uf 7)) (uf 12))) rfl) (@unf (uf 0) (R [u,u,u] (uf 2)) rfl)))))
theorem Ye:type_of% V116.down:=V116.down
theorem I8:Bt 116 45 (uf 0) [(.tmp 2),(.tmp 3),(.tmp 4)]:=bt Tryz.func116 rfl
noncomputable def og:=yy Tryz.f118
def V118:=PLift.up (aI (aI (aI (@unf (og 7) (T (F [v,u,u,u])) rfl) (@unf (og 32) (T (F [v,u,u,u])) rfl)) (aI (@unf (og 37) (r [x,u,u,v,u,u,v,u,u]) rfl) (@unf (og 25) (X (O (R [u,u,u,u,u,v,v,v,u,u,u] (X (R [u,u] (og 32)) (og 37)))) (r [u,u])) rfl))) (aI (aI (@unf (og 19) (R [u] (X I (og 25))) rfl) (@unf (og 39) (F [v,v,u,u,u]) rfl)) (aI (@unf (og 12) (R [u] (X (R [u,u] (U (og 19))) (og 39))) rfl) (aI (@unf (og 2) (R [u,u,u,v,v,v,u,u,u] (X (R [u,u] (og 7)) (og 12))) rfl) (@unf (og 0) (R [u,u,u] (og 2)) rfl)))))
theorem V4:type_of% V118.down:=V118.down
theorem F0:Bt 118 45 (og 0) [(.tmp 2),(.tmp 3),(.tmp 4)]:=bt Tryz.func118 rfl
noncomputable def Jd:=yy Tryz.f119
def V119:=PLift.up (aI (aI (@unf (Jd 14) (R [u,u,u,u,u,u,u,v,u] (T (r [u]))) rfl) (aI (@unf (Jd 10) (R [u,v,u] (V (r [u]) (Jd 14))) rfl) (@unf (Jd 19) (F [v,v,v,u,u,u]) rfl))) (aI (@unf (Jd 4) (X (O (R [u,v,u] (V .skip (Jd 10)))) (Jd 19)) rfl) (aI (@unf (Jd 2) (R [u,u,u,v,v,v,u,u,u] (Jd 4)) rfl) (@unf (Jd 0) (R [u,u,u] (Jd 2)) rfl))))
theorem eC:type_of% V119.down:=V119.down
theorem En:Bt 119 31 (Jd 0) [(.tmp 4),(.tmp 5),(.tmp 6)]:=bt Tryz.func119 rfl
noncomputable def cg:=yy Tryz.f72
def V72:=PLift.up (aI (aI (@unf (cg 30) (r [u,v,u]) rfl) (aI (@unf (cg 21) (X (O (X (G [u,u,u,u,u,u,u,u,u]) (T (F [u])))) (cg 30)) rfl) (@unf (cg 15) (X (R [u,u,u,u] I) (cg 21)) rfl))) (aI (@unf (cg 10) (X (R [u] (U (cg 15))) (F [u])) rfl) (aI (@unf (cg 2) (X (R [u,u,u,u,u] (T (F [u]))) (cg 10)) rfl) (@unf (cg 0) (R [u] (cg 2)) rfl))))
theorem Di:type_of% V72.down:=V72.down
theorem b72:Bt 72 26 (cg 0) [(.tmp 4)]:=bt Tryz.func72 rfl
noncomputable def Bu:=yy Tryz.f138
def V138:=PLift.up (aI (@unf (Bu 0) (R [u,u,u] (F [v,u])) rfl) trivial)
theorem Eg:type_of% V138.down:=V138.down
noncomputable def UF:=yy Tryz.f144
def V144:=PLift.up (aI (aI (@unf (UF 6) (X (G [v,v,v,u,u,u]) .ret) rfl) (@unf (UF 4) (R [u,u,v,u] (UF 6)) rfl)) (aI (@unf (UF 2) (R [u,u,u,u,u,v,v,v,u,u,u] (UF 4)) rfl) (@unf (UF 0) (R [u,u,u] (UF 2)) rfl)))
theorem sy:type_of% V144.down:=V144.down
theorem H4:Bt 144 22 (UF 0) [(.tmp 2),(.tmp 3),(.tmp 4)]:=bt Tryz.func144 rfl
noncomputable def mZ:=yy Tryz.f20
def V20:=PLift.up (aI (aI (@unf (mZ 5) (T (F [v,u,u])) rfl) (@unf (mZ 10) (F [u,u,u,v,u,u]) rfl)) (aI (@unf (mZ 2) (X (R [u,u,u,u,z 9,z 9,z 9,u] (mZ 5)) (mZ 10)) rfl) (@unf (mZ 0) (R [u,u] (mZ 2)) rfl)))
theorem ny:type_of% V20.down:=V20.down
theorem xA:Bt 20 19 (mZ 0) [(.cell 4 33),(.tmp 5)]:=bt Tryz.func20 rfl
noncomputable def D8:=yy Tryz.f78
def V78:=PLift.up (aI (@unf (D8 2) (F [u,u,u,u,v,u]) rfl) (@unf (D8 0) (R [u] (D8 2)) rfl))
theorem U78:type_of% V78.down:=V78.down
theorem b78:Bt 78 10 (D8 0) [(.tmp 4)]:=bt Tryz.func78 rfl
noncomputable def y9:=yy Tryz.f9
def V9:=PLift.up (aI (@unf (y9 5) (T (F [u,u,v,u])) rfl) (aI (@unf (y9 2) (X (R [u,u,u,u] (y9 5)) (F [v,u])) rfl) (@unf (y9 0) (R [u] (y9 2)) rfl)))
theorem U9:type_of% V9.down:=V9.down
theorem b9:Bt 9 13 (y9 0) [(.tmp 4)]:=bt Tryz.func9 rfl
end Go.Proofs.YtgopigkdcmhbbaaGreatDoor
end
section
namespace Go.Proofs.YtgopigkdcmhbbaaGreatDoor
open Go Go.Aw Go.Shelf Go.RowKit Go.Proofs
def bren:Ren:=⟨fun|240=>102|276=>133|169=>66|n=>n,fun|20=>20|37=>55|70=>112|72=>114|127=>165|164=>195|n=>n,fun|n=>n⟩
theorem nK:Lays.n240 Tryz.prog bren:={
 mixed:=by kernel_rfl
 f240:=Tryz.func102.trans (congrArg some (by kernel_rfl))
 f276:=Tryz.func133.trans (congrArg some (by kernel_rfl))
 t0:=Tryz.underlying0
 a0:=Tryz.isAgg0
 z0:=Tryz.sizeOf0
 v0:=Tryz.zeroValue0
 t4:=Tryz.underlying4
 a4:=Tryz.isAgg4
 z4:=Tryz.sizeOf4
 v4:=Tryz.zeroValue4
 t9:=Tryz.underlying9
 a9:=Tryz.isAgg9
 z9:=Tryz.sizeOf9
 v9:=Tryz.zeroValue9
 t20:=Tryz.underlying20
 a20:=Tryz.isAgg20
 z20:=Tryz.sizeOf20
 v20:=Tryz.zeroValue20
 t70:=Tryz.underlying112
 a70:=Tryz.isAgg112
 z70:=Tryz.sizeOf112
 v70:=Tryz.zeroValue112
 t72:=Tryz.underlying114
 a72:=Tryz.isAgg114
 z72:=Tryz.sizeOf114
 v72:=Tryz.zeroValue114
 t164:=Tryz.underlying195
 a164:=Tryz.isAgg195
 z164:=Tryz.sizeOf195
 v164:=Tryz.zeroValue195}
theorem blX:Builder.X72 Tryz.prog bren:=⟨by kernel_rfl,by kernel_rfl⟩
theorem QO {T:TypeId} (J:Nat->List D->(Nat->BK)->World->Prop) (hJ:∀b K w,K b= .tok 0 (.cell b 0)->w.heap[b]?=some (.cells #[.pointer none,.slice none 0 0] T (0,0))->J b [] K w) (hok:∀b,iZ b (J b)) (hz:∀w,(zeroValue T).run P w= .ok (.agg #[.pointer none,.slice none 0 0]) w)
  (h:∀b,qD H b->k (F.set d (.ptr b 0)) ((b,.lp (J b) [])::H)):V2 P (.alloc T) (some d) F H k:=by
 intro o K w a Q ho hd hs
 obtain ⟨hp,hk'⟩:=yH (K:=K) (w:=w) hs.krel (.cells #[.pointer none,.slice none 0 0] T) (x:= .tok 0 (.cell w.heap.size 0)) (by simp)
 have hold:=hs.hrel.pres hs.krel hp
 refine qK (v:= .pointer (some ⟨w.heap.size,0,none⟩)) (w':=w.alloc (.cells #[.pointer none,.slice none 0 0] T)) ?_ ⟨_,_,_,h _ (hs.hrel.fresh hs.krel),hp.fk hs.krel,?_,qv _ _⟩
 ·simp [execOp,ho,Instr.alloc,hz,newVar,newRow,Value.cells]
 ·rw [hd]
  refine hs.put (hp.keep hs.krel) (fun _ _ h=>h) hk' ⟨?_,fun b o hm=>?_⟩ (some d) (fun i _=>RepV.viewO (.ptr _ _))
  ·simp only [List.map_cons,List.nodup_cons]
   refine ⟨fun hm=>?_,hold.nd⟩
   rw [List.mem_map] at hm
   obtain ⟨⟨b,o⟩,h1,h2⟩:=hm
   have:=hs.hrel.lt hs.krel h1
   simp only [] at h2
   omega
  ·rcases List.mem_cons.1 hm with h|h
   ·injection h with h1 h2
    subst h1 h2
    exact ⟨⟨0,0,jw _ _ _⟩,hJ _ _ _ (jw _ _ _) (heap_alloc_new w _),hok _⟩
   ·exact hold.ok b o h
structure One (b:Nat) (w w':World):Prop where
 os:w'.os=w.os
 tape:w'.tape=w.tape
 output:w'.output=w.output∧w.drawn<=w'.drawn
 size:w'.heap.size=w.heap.size
 other:∀c,c≠b->w'.heap[c]?=w.heap[c]?
theorem One.set (b i:Nat) (w:World) (v:Value):One b w (w.setCell ⟨b,i,none⟩ v):=⟨rfl,rfl,⟨rfl,Mr _⟩,by simp,fun c hc=>Below.heap_setCell _ _ _ _ hc⟩
theorem sK (hw:w.heap[b]?=some (.cells #[p,v] 114 (0,0))) (hp:p= .pointer none∨p= .pointer (some ⟨b,0,none⟩)):
  Calls Tryz.prog 102 #[.pointer (some ⟨b,0,none⟩)] w fun e w'=>e= .returned (.tuple #[])∧w'.heap[b]?=some (.cells #[.pointer (some ⟨b,0,none⟩),v] 114 (0,0))∧One b w w':=by
 rcases hp with rfl|rfl
 ·have c0:w.cell? ⟨b,0,none⟩=some (.pointer none):=by rw [Lib.cell_of_heap hw];rfl
  have c1:w.shape? b=some (bren.t 72,2):=by simp [World.shape?,hw];rfl
  refine (Any.Builder_copyCheck_fresh nK blX b w c0 c1 (Lib.frozen_of_heap hw 0)).mono ?_
  rintro e w' ⟨rfl,rfl⟩
  exact ⟨rfl,heap_setCell_same w b 0 _ _ _ hw,One.set b 0 w _⟩
 ·have c0:w.cell? ⟨b,0,none⟩=some (.pointer (some ⟨b,0,none⟩)):=by rw [Lib.cell_of_heap hw];rfl
  refine (Any.Builder_copyCheck_used nK blX b w c0).mono ?_
  rintro e w' ⟨rfl,rfl⟩
  exact ⟨rfl,hw,rfl,rfl,⟨rfl,Mr _⟩,rfl,fun _ _=>rfl⟩
end Go.Proofs.YtgopigkdcmhbbaaGreatDoor
end
section
namespace Go.Proofs.YtgopigkdcmhbbaaGreatDoor
open Go Go.Aw Go.Shelf Go.RowKit Go.Proofs
def BldJ (b:Nat) (l:List UInt8):List D->(Nat->BK)->World->Prop:=fun _ K w=>K b= .tok 0 (.cell b 0)∧∃p v,w.heap[b]?=some (.cells #[p,v] 114 (0,0))∧(p= .pointer none∨p= .pointer (some ⟨b,0,none⟩))∧OwnAt K w (.cell b 1) (l.map ql) v∧
 ((l= []∧v= .slice none 0 0)∨∃g cap c,l≠ []∧v= .slice (some ⟨g,0,none⟩) l.length cap∧w.heap[g]?=some (.cells c 5 (0,0)))
theorem Kt {K K':Nat->BK} {w w':World} {o:Who} {l:List UInt8} {v:Value} (h:OwnAt K w o (l.map ql) v) (hk:∀c n,K c= .tok n o->K' c= .tok n o∧w'.heap[c]?=w.heap[c]?):OwnAt K' w' o (l.map ql) v:=by
 rcases h with h|⟨b,cap,sz,c,T,hv,h1,h2,h3,h4,h5,h6,h7,h8,h9⟩
 ·exact .inl h
 ·obtain ⟨g1,g2⟩:=hk b _ h1
  refine .inr ⟨b,cap,sz,c,T,hv,g1,g2.trans h2,h3,h4,h5,h6,h7,h8,fun i x hi j d hj=>?_⟩
  obtain ⟨u,e1,e2,e3⟩:=h9 i x hi j d hj
  refine ⟨u,e1,e2,?_⟩
  have hx:=Mn hi
  obtain ⟨y,_,rfl⟩:=List.mem_map.1 hx
  match j,hj with
  | 0,hj=>
   simp only [ql,Mm,Option.some.injEq] at hj
   subst hj
   obtain ⟨rfl,hin⟩:=e3.int_inv
   exact .int _ _ hin
  |j+1,hj=>simp [ql] at hj
theorem BldJ.ok:iZ b (BldJ b l):=by
 intro pre K w K' w' h hk
 obtain ⟨h1,p,v,h2,h3,h4,h5⟩:=h
 have g:=hk b 0 0 h1
 refine ⟨g.1,p,v,g.2.trans h2,h3,Kt h4 fun c n hc=>hk c n 1 hc,?_⟩
 rcases h5 with h5|⟨g,cap,c,hl,rfl,hg⟩
 ·exact .inl h5
 ·rcases h4 with ⟨h4,a,e⟩|⟨b',cap',sz,c',T,hv,q1,q2,_⟩
  ·injection e with e1 e2 e3
   have:l= []:=by simpa using h4
   exact (hl this).elim
  ·injection hv with e1 _ _
   injection e1 with e1
   injection e1 with e1
   subst e1
   exact .inr ⟨_,cap,c,hl,rfl,(hk g _ 1 q1).2.trans hg⟩
theorem Zo {Q:Exit->Act->World->Prop} (hgd:o.guard=none) (s x:Operand) (t u:TypeId)
  (ho:o.op= .call {callee:= .builtin .append,args:=#[s,x],argTypes:=#[t,u]}) (hs:a.eval s=v) (hx:a.eval x=y)
  (hr:(Builtin.append_ #[t,u] o.type #[v,y]).run P w= .ok r w') (h:wpList P ops Q rest (a.put o.dst r) w'):wpList P ops Q (o::rest) a w:=
 wpList_plain hgd fun K hK=>by
  unfold Oper.wp execOp
  simp only [ho,resolve,invoke,builtin,Sem.run_bind,Sem.run_pure,Result.andThen_ok,List.map_toArray,List.map_cons,List.map_nil,hs,hx,hr]
  exact hK _ _ h
theorem aJ (hw:w.heap[b]?=some (.cells #[p,v] 114 (0,0))) (hp:p= .pointer none∨p= .pointer (some ⟨b,0,none⟩))
  {Good:World->Value->World->Prop} (happ:∀w1:World,w1.heap[b]?=some (.cells #[.pointer (some ⟨b,0,none⟩),v] 114 (0,0))->One b w w1->
   ∃r w2,(Builtin.append_ #[55,55] 55 #[v,.slice (some ad) m cx]).run Tryz.prog w1= .ok r w2∧(∃a n c,r= .slice a n c)∧w2.heap[b]?=w1.heap[b]?∧Good w1 r w2):
  Calls Tryz.prog 63 #[.pointer (some ⟨b,0,none⟩),.slice (some ad) m cx] w fun e w3=>e= .returned (.tuple #[.int .i64 m,.nilIface])∧
   ∃w1 r w2,w1.heap[b]?=some (.cells #[.pointer (some ⟨b,0,none⟩),v] 114 (0,0))∧One b w w1∧w2.heap[b]?=w1.heap[b]?∧Good w1 r w2∧w3=w2.setCell ⟨b,1,none⟩ r:=by
 go_enter Tryz.func63,Tryz.ntmps63
 go_wp2_with (go_at_call 102;refine (sK hw hp).mono ?_)
 rintro e w1 ⟨rfl,hb1,ho1⟩
 obtain ⟨r,w2,hr,⟨ar,nr,cr,rfl⟩,hb2,hG⟩:=happ w1 hb1 ho1
 have c0:w1.cell? ⟨b,0,none⟩=some (.pointer (some ⟨b,0,none⟩)):=by rw [Lib.cell_of_heap hb1];rfl
 have c1:w1.cell? ⟨b,1,none⟩=some v:=by rw [Lib.cell_of_heap hb1];rfl
 have hb2':=hb2.trans hb1
 have d1:w2.cell? ⟨b,1,none⟩=some v:=by rw [Lib.cell_of_heap hb2'];rfl
 have f1:w2.frozen? ⟨b,1,none⟩=false:=Lib.frozen_of_heap hb2' 1
 go_wp2_with (at_builtin;refine Zo rfl _ _ _ _ rfl rfl rfl hr ?_)
 go_ret2
 exact ⟨rfl,w1,_,w2,hb1,ho1,hb2,hG,rfl⟩
end Go.Proofs.YtgopigkdcmhbbaaGreatDoor
end
section
namespace Go.Proofs.YtgopigkdcmhbbaaGreatDoor
open Go Go.Aw Go.Shelf Go.RowKit Go.Proofs
theorem VH:∀{H:AH} {c:Nat} {o:AO},(c,o)∈H->c≠b->(c,o)∈qN H b
 | (c',o')::r,c,o,h,hne=>by
  unfold qN
  split
  ·rename_i e
   rcases List.mem_cons.1 h with h|h
   ·injection h with h1 _;exact (hne (h1.trans e.symm)).elim
   ·exact h
  ·rcases List.mem_cons.1 h with h|h
   ·exact h▸ .head _
   ·exact .tail _ (VH h hne)
theorem apB:KZ Tryz.prog 55 55=some (5,1,1):=by kernel_rfl
theorem HQ:∃i,Tryz.prog.info? 5=some i∧i.zero=some (.int .u8 0)∧i.size=1∧i.bytes=1:=by
 have h:(Tryz.prog.info? 5).map (fun i=>(i.zero,i.size,i.bytes))=some (some (.int .u8 0),1,1):=by kernel_rfl
 obtain ⟨i,h1,h2⟩:=Option.map_eq_some_iff.1 h
 injection h2 with h2 h3
 injection h3 with h3 h4
 exact ⟨i,h1,h2,h3,h4⟩
theorem eF (hk:KRel K w) (hh:HRel K w H) (ho:OwnAt K w (.slot 0 0) (l.map ql) v)
  (ht:(l= []∧v= .slice none 0 0)∨∃g cap c,l≠ []∧v= .slice (some ⟨g,0,none⟩) l.length cap∧w.heap[g]?=some (.cells c 5 (0,0))) (hm:m≠ []) (hlen:l.length+m.length<=1000000)
  (hs:Src Tryz.prog w K 1 (m.map ql) x) (hx:x= .slice (some ad) m.length cx) (hc:∀j y,m[j]?=some y->w.cell? (ad.add j)=some (.int .u8 y.toNat)):
  ∃ r K' w',(Builtin.append_ #[55,55] 55 #[v,x]).run Tryz.prog w= .ok r w'∧Keep (fun o=>o= .slot 0 0) bV K w K' w'∧KRel K' w'∧HRel K' w' H∧OwnAt K' w' (.slot 1 0) ((l++m).map ql) r∧
   ∃g cap c,l++m≠ []∧r= .slice (some ⟨g,0,none⟩) (l++m).length cap∧w'.heap[g]?=some (.cells c 5 (0,0)):=by
 obtain ⟨r,K',w',h1,h2,h3,h4,h5⟩:=YQ (P:=Tryz.prog) (ty:=55) hk hh apB (s:= .slot 0 0) (d:= .slot 1 0) (by simp) (by simp) (by simp) ho (Un l) hs (by simp;omega)
 obtain ⟨i,i1,i2,i3,i4⟩:=HQ
 have hown:w.ownsRow 0 5 1 v l.length (l.map fun c=>.int .u8 (c.toNat:Int)):=by
  refine ⟨by simp,?_⟩
  rcases ht with ⟨rfl,rfl⟩|⟨g,cap,c,hl,rfl,hg⟩
  ·exact .inl ⟨rfl,rfl⟩
  ·rcases ho with ⟨ho,_⟩|⟨g',cap',sz,c',T,hv,q1,q2,q3,q4,q5,q6,q7,q8,q9⟩
   ·exact (hl (by simpa using ho)).elim
   ·injection hv with e1 e2 e3
    injection e1 with e1
    injection e1 with e1
    subst e1 e3
    rw [q2] at hg
    injection hg with hg
    injection hg with hc1 hc2
    subst hc1 hc2
    have hsz:sz=1:=by
     have:=q8 0 _ (Mb q4)
     simpa [ql] using this.symm
    subst hsz
    refine .inr ⟨_,cap,_,rfl,Nat.zero_le _,q2,by simpa using q5,q6,q3,?_⟩
    apply List.ext_getElem?
    intro j
    rw [List.getElem?_take]
    by_cases hj:j<l.length
    ·rw [if_pos (by omega)]
     obtain ⟨u,g1,_,g3⟩:=q9 j (ql (l[j])) (by rw [Me,Mb hj];rfl) 0 _ rfl
     obtain ⟨rfl,_⟩:=g3.int_inv
     rw [Me,Mb hj]
     simpa using g1
    ·rw [if_neg (by omega),Mu (by simp;omega)]
 obtain ⟨v2,w2,g1,g2,_,g4⟩:=run_append_own (P:=Tryz.prog) (w:=w) 0 55 55 5 i (.int .u8 0) 1 1 (jo (oE apB).1).1 i1 i2 i3 i4 rfl (by decide) v l.length _ hown ad m.length cx (m.map fun c=>.int .u8 (c.toNat:Int)) (by simp) (fun j u hu=>by
  rw [Me,Option.map_eq_some_iff] at hu
  obtain ⟨y,hy,rfl⟩:=hu
  exact hc j y hy) (fun u hu=>by
  obtain ⟨y,_,rfl⟩:=List.mem_map.1 hu
  rfl) (by unfold maxLen;omega) (by omega) (Nat.zero_le _)
 subst hx
 rw [h1] at g1
 injection g1 with e1 e2
 subst e1 e2
 have hlm:l++m≠ []:=by simp [hm]
 have hml:0<m.length:=List.length_pos_iff.2 hm
 refine ⟨r,K',w',h1,h2,h3,h4,by rw [Mo];exact h5,?_⟩
 rcases g2.2 with ⟨_,q⟩|⟨g,cap,cur,q1,_,q2,_⟩
 ·omega
 ·exact ⟨g,cap,cur,hlm,by rw [q1,Mi],q2⟩
def wφ (b:Nat):Who->Who:=fun o=>if o= .cell b 1 then .slot 0 0 else o
def wψ (b:Nat):Who->Who:=fun o=>if o= .slot 1 0 then .cell b 1 else o
theorem Q9 {R:D->AH->Prop} (hg:qn H b=some (.lp (BldJ b l) [])) (hm:m≠ []) (hlen:l.length+m.length<=1000000)
  (hda:∀K w v,HRel K w (qN H b)->RepV K w da v->Src Tryz.prog w K 1 (m.map ql) v∧∃ad c,v= .slice (some ad) m.length c∧∀j x,m[j]?=some x->w.cell? (ad.add j)=some (.int .u8 x.toNat))
  (h:R (.tup [.int .i64 m.length,.any]) (qH H b (.lp (BldJ b (l++m)) []))):ACall Tryz.prog 63 [.ptr b 0,da] H R:=by
 refine ⟨by kernel_rfl,fun K w vs hk hns hh hl hr=>?_⟩
 obtain ⟨v0,x,rfl⟩:∃v x,vs=#[v,x]:=by
  obtain ⟨l⟩:=vs
  match l,hl with
  | [v,x],_=>exact ⟨v,x,rfl⟩
 have hv:v0= .pointer (some ⟨b,0,none⟩):=(hr 0 _ v0 rfl rfl).ptr_inv
 subst hv
 have hrx:=hr 1 _ x rfl rfl
 obtain ⟨_,⟨hK,p,v,hw,hp,ho,ht⟩,_⟩:=hh.ok b _ (qP hg)
 have hbl:b<w.heap.size:=(Array.getElem?_eq_some_iff.1 hw).1
 have hsub:HRel K w (qN H b):=⟨(erase_sub.map (·.1)).nodup hh.nd,fun c o hm=>hh.ok c o (erase_sub.subset hm)⟩
 obtain ⟨_,ad,cx,hx,_⟩:=hda K w x hsub hrx
 -- the world behind copyCheck
 have hstep:∀w1:World,One b w w1->Keep (fun o=>∃j,o= .cell b j) (fun c=>c=b) K w (relab (wφ b) K) w1:=by
  intro w1 h1
  have hne:∀{c:Nat} {y:BK},K c=y->y≠ .tok 0 (.cell b 0)->c≠b:=fun q1 q2 e=>by rw [e,hK] at q1;exact q2 q1.symm
  refine ⟨⟨h1.os,h1.tape,h1.output,by rw [h1.size];exact Mr _,fun c _ hc=>⟨relab_imm.2 hc,h1.other c (hne hc (by simp))⟩,fun c n o hc hn=>⟨n,_,qL hc,Mr _,fun i _=>j5 (h1.other c (hne hc (by intro e;injection e with e1 _;omega))) i⟩,fun c hc=>.inl (relab_priv.2 hc)⟩,fun c n o hc hnE=>?_,fun c n hc=>?_,fun c hc hcb=>⟨relab_priv.2 hc,h1.other c hcb⟩⟩
  ·refine ⟨?_,h1.other c (hne hc (by intro e;injection e with _ e2;exact hnE ⟨0,e2⟩))⟩
   rw [qL hc,wφ,if_neg (fun e=>hnE ⟨1,e⟩)]
  ·obtain ⟨o',q1,q2⟩:=kq hc
   unfold wφ at q2
   split at q2
   ·cases q2
   ·exact q2▸q1
 subst hx
 have hwr:=aJ (m:=m.length) (cx:=cx) (ad:=ad) hw hp (Good:=fun w1 r w2=>∃K',Keep (fun o=>o= .slot 0 0) bV (relab (wφ b) K) w1 K' w2∧KRel K' w2∧HRel K' w2 (qN H b)∧OwnAt K' w2 (.slot 1 0) ((l++m).map ql) r∧
   ∃g cap c,l++m≠ []∧r= .slice (some ⟨g,0,none⟩) (l++m).length cap∧w2.heap[g]?=some (.cells c 5 (0,0))) (fun w1 hb1 ho1=>by
  have hk1:=hstep w1 ho1
  have hkr:KRel (relab (wφ b) K) w1:=fun c hc=>relab_imm.2 (hk c (by rw [<-ho1.size];exact hc))
  have hh1:HRel (relab (wφ b) K) w1 (qN H b):=hsub.keep hk1 (fun c o hm=>⟨kj hh.nd hm,fun j ⟨q,e⟩=>kj hh.nd hm (by injection e)⟩)
  obtain ⟨hs,ad',cx',e1,e2⟩:=hda _ w1 _ hh1 (hrx.mono hk1.ext)
  injection e1 with e3 e4 e5
  injection e3 with e3
  subst e3 e5
  have hgne:∀c n,K c= .tok n (.cell b 1)->c≠b:=fun c n hc e=>by subst e;rw [hK] at hc;injection hc with _ e;injection e with _ e;cases e
  have ho1':OwnAt (relab (wφ b) K) w1 (.slot 0 0) (l.map ql) v:=by
   have q:OwnAt K w1 (.cell b 1) (l.map ql) v:=Kt ho fun c n hc=>⟨hc,ho1.other c (hgne c n hc)⟩
   have:=uw (φ:=wφ b) q
   simpa [wφ] using this
  have ht1:(l= []∧v= .slice none 0 0)∨∃g cap c,l≠ []∧v= .slice (some ⟨g,0,none⟩) l.length cap∧w1.heap[g]?=some (.cells c 5 (0,0)):=by
   rcases ht with ht|⟨g,cap,c,q1,q2,q3⟩
   ·exact .inl ht
   ·refine .inr ⟨g,cap,c,q1,q2,?_⟩
    rw [ho1.other g (fun e=>by subst e;rw [hw] at q3;injection q3 with q3;injection q3 with _ q3;exact absurd q3 (by decide))]
    exact q3
  obtain ⟨r,K',w2,g1,g2,g3,g4,g5,g6⟩:=eF hkr hh1 ho1' ht1 hm hlen hs rfl e2
  refine ⟨r,w2,g1,?_,?_,K',g2,g3,g4,g5,g6⟩
  ·obtain ⟨g,cap,c,_,q,_⟩:=g6
   exact ⟨_,_,_,q⟩
  ·exact (g2.own b 0 (.cell b 0) (by rw [qL hK];simp [wφ]) (by simp)).2)
 refine hwr.mono ?_
 rintro e w3 ⟨rfl,w1,r,w2,hb1,ho1,hb2,⟨K',g2,g3,g4,g5,g6⟩,rfl⟩
 have hk1:=hstep w1 ho1
 have hbK:=g2.own b 0 (.cell b 0) (by rw [qL hK];simp [wφ]) (by simp)
 have hw2:w2.heap[b]?=some (.cells #[.pointer (some ⟨b,0,none⟩),v] 114 (0,0)):=hb2.trans hb1
 have hnew:=heap_setCell_same w2 b 1 _ _ r hw2
 have ho3:=One.set b 1 w2 r
 have hbl2:b<w2.heap.size:=(Array.getElem?_eq_some_iff.1 hw2).1
 generalize hw3:w2.setCell ⟨b,1,none⟩ r=w3 at hnew ho3 ⊢
 have hne:∀{c:Nat} {y:BK},K' c=y->y≠ .tok 0 (.cell b 0)->c≠b:=fun q1 q2 e=>by rw [e,hbK.1] at q1;exact q2 q1.symm
 have hk3:Keep (fun o=>o= .slot 1 0∨∃j,o= .cell b j) (fun c=>c=b) K' w2 (relab (wψ b) K') w3:=by
  refine ⟨⟨ho3.os,ho3.tape,ho3.output,by rw [ho3.size];exact Mr _,fun c _ hc=>⟨relab_imm.2 hc,ho3.other c (hne hc (by simp))⟩,fun c n o hc hn=>⟨n,_,qL hc,Mr _,fun i _=>j5 (ho3.other c (hne hc (by intro e;injection e with e1 _;omega))) i⟩,fun c hc=>.inl (relab_priv.2 hc)⟩,fun c n o hc hnE=>?_,fun c n hc=>?_,fun c hc hcb=>⟨relab_priv.2 hc,ho3.other c hcb⟩⟩
  ·refine ⟨?_,ho3.other c (hne hc (by intro e;injection e with _ e2;exact hnE (.inr ⟨0,e2⟩)))⟩
   rw [qL hc,wψ,if_neg (fun e=>hnE (.inl e))]
  ·obtain ⟨o',q1,q2⟩:=kq hc
   unfold wψ at q2
   split at q2
   ·cases q2
   ·exact q2▸q1
 have hh3:HRel (relab (wψ b) K') w3 (qN H b):=g4.keep hk3 (fun c o hm=>⟨kj hh.nd hm,fun j e=>by
  rcases e with e|⟨q,e⟩
  ·cases e
  ·exact kj hh.nd hm (by injection e)⟩)
 refine ⟨_,_,_,relab (wψ b) K',rfl,h,?_,fun c hc=>relab_imm.2 (g3 c (by rw [<-ho3.size];exact hc)),⟨by rw [jS];exact hh.nd,fun c o hm=>?_⟩,?_⟩
 ·exact ((hk1.fk (fun ⟨_,e⟩=>by cases e)).trans (g2.fk (by simp))).trans (hk3.fk (by simp))
 ·rcases kR hh.nd hm with ⟨rfl,rfl⟩|⟨q1,q2⟩
  ·have hbk:relab (wψ c) K' c= .tok 0 (.cell c 0):=by rw [qL hbK.1];simp [wψ]
   refine ⟨⟨0,0,hbk⟩,⟨hbk,_,r,hnew,.inr rfl,?_,.inr ?_⟩,BldJ.ok⟩
   ·have q:OwnAt K' w3 (.slot 1 0) ((l++m).map ql) r:=Kt g5 fun d n hd=>⟨hd,ho3.other d (hne hd (by simp))⟩
    have:=uw (φ:=wψ c) q
    simpa [wψ] using this
   ·obtain ⟨g,cap,cc,q3,q4,q5⟩:=g6
    refine ⟨g,cap,cc,q3,q4,?_⟩
    rw [ho3.other g (fun e=>by subst e;rw [hw2] at q5;injection q5 with q5;injection q5 with _ q5;exact absurd q5 (by decide))]
    exact q5
  ·exact hh3.ok c o (VH q2 q1)
 ·refine ⟨_,rfl,rfl,fun i d u hd hu=>?_⟩
  match i,hd,hu with
  | 0,hd,hu=>
   simp only [Mm,Option.some.injEq] at hd
   subst hd
   simp at hu
   subst hu
   exact .int _ _ (by rw [yG];omega)
  | 1,hd,hu=>
   simp only [List.getElem?_cons_succ,Mm,Option.some.injEq] at hd
   subst hd
   exact .any _
  |i+2,hd,hu=>simp at hd
end Go.Proofs.YtgopigkdcmhbbaaGreatDoor
end
section
namespace Go.Proofs.YtgopigkdcmhbbaaGreatDoor
open Go Go.Aw Go.Shelf Go.RowKit Go.Proofs
theorem ml (hw:w.heap[b]?=some (.cells #[p,.slice (some ⟨g,0,none⟩) l.length cap] 114 (0,0))) (h0:l≠ []) (hlen:l.length<=1000000)
  (hg:w.heap[g]?=some (.cells cur 5 (0,0))) (hnc:l.length<=cap) (hcs:cur.size=cap) (hc:∀j x,l[j]?=some x->w.cell? ⟨g,j,none⟩=some (.int .u8 x.toNat)):
  Calls Tryz.prog 66 #[.pointer (some ⟨b,0,none⟩)] w fun e w'=>e= .returned (.string ⟨l.toArray⟩)∧w'=w.drew.freeze ⟨g,0,none⟩ l.length:=by
 have hl0:0<l.length:=List.length_pos_iff.2 h0
 have c1:w.drew.cell? ⟨b,1,none⟩=some (.slice (some ⟨g,0,none⟩) l.length cap):=by
  have:w.drew.heap[b]?=some (.cells #[p,.slice (some ⟨g,0,none⟩) l.length cap] 114 (0,0)):=hw
  rw [Lib.cell_of_heap this];rfl
 have hSD:(Builtin.unsafeSliceData_ #[55] 165 #[.slice (some ⟨g,0,none⟩) l.length cap]).run Tryz.prog w.drew= .ok (.pointer (some ⟨g,0,none⟩)) w.drew:=
  Lib.run_unsafeSliceData_row _ _ _ _ _ _ (by omega)
 have hUS:(Builtin.unsafeString_ #[165,3] 9 #[.pointer (some ⟨g,0,none⟩),.int .i64 l.length]).run Tryz.prog w.drew= .ok (.string ⟨l.toArray⟩) (w.drew.freeze ⟨g,0,none⟩ l.length):=by
  refine Lib.run_unsafeString_row w.drew 165 3 9 5 (by kernel_rfl) (by kernel_rfl) g cur.size (by have hg':w.drew.heap[g]?=some (.cells cur 5 (0,0)):=hg;simp [World.shape?,hg']) l h0 (by omega) (by omega) ?_
  intro j x hx
  have:=hc j x hx
  by_cases hj:j=0
  ·subst hj;simpa [Addr.add] using this
  ·simpa [Addr.add,hj] using this
 have mixed:Tryz.prog.follows .mixedOrders=true:=hmm
 go_enter Tryz.func66,Tryz.ntmps66
 go_wp2
 go_region_o
 all_goals (go_wp2;go_ret;exact ⟨rfl,rfl⟩)
theorem hP (h:l.length<=big):RepV K w (.str l) (.string ⟨l.toArray⟩):=by
 have:=@RepV.str K w l h
 exact this
theorem Ym {R:D->AH->Prop} (hg:qn H b=some (.lp (BldJ b l) [])) (h0:l≠ []) (hlen:l.length<=1000000) (h:R (.str l) (qN H b)):ACall Tryz.prog 66 [.ptr b 0] H R:=by
 have hbig:=qj
 refine ⟨by kernel_rfl,fun K w vs hk hns hh hl hr=>?_⟩
 obtain ⟨v0,rfl⟩:∃v,vs=#[v]:=by
  obtain ⟨l⟩:=vs
  match l,hl with
  | [v],_=>exact ⟨v,rfl⟩
 have hv:v0= .pointer (some ⟨b,0,none⟩):=(hr 0 _ v0 rfl rfl).ptr_inv
 subst hv
 obtain ⟨_,⟨hK,p,v,hw,hp,ho,ht⟩,_⟩:=hh.ok b _ (qP hg)
 rcases ht with ⟨e,_⟩|⟨g,cap,c,_,rfl,hgc⟩
 ·exact (h0 e).elim
 rcases ho with ⟨ho,_⟩|⟨g',cap',sz,c',T,hv,q1,q2,q3,q4,q5,q6,q7,q8,q9⟩
 ·exact (h0 (by simpa using ho)).elim
 injection hv with e1 e2 e3
 injection e1 with e1
 injection e1 with e1
 subst e1 e3
 rw [q2] at hgc
 injection hgc with hgc
 injection hgc with hc1 hc2
 subst hc1 hc2
 have hsz:sz=1:=by
  have:=q8 0 _ (Mb q4)
  simpa [ql] using this.symm
 subst hsz
 have hgne:∀{d:Nat} {y:BK},K d=y->(∀n,y≠ .tok n (.cell b 1))->d≠g:=fun e1 e2 e=>by rw [e,q1] at e1;exact e2 _ e1.symm
 refine (ml hw h0 hlen q2 (by simpa using q5) (by simpa using q3) (fun j x hx=>?_)).mono ?_
 ·obtain ⟨u,g1,_,g3⟩:=q9 j (ql x) (by rw [Me,hx];rfl) 0 _ rfl
  obtain ⟨rfl,_⟩:=g3.int_inv
  rw [jQ q2]
  simpa using g1
 ·rintro e w' ⟨rfl,rfl⟩
  have hoth:∀d,d≠g->(w.drew.freeze ⟨g,0,none⟩ l.length).heap[d]?=w.heap[d]?:=fun d hd=>by
   unfold World.freeze
   split
   ·rfl
   ·simp only [Array.getElem?_modify]
    rw [if_neg (fun e=>hd e.symm)]
    rfl
  have hcell:∀d j,(w.drew.freeze ⟨g,0,none⟩ l.length).cell? ⟨d,j,none⟩=w.cell? ⟨d,j,none⟩:=fun d j=>by
   by_cases e:d=g
   ·subst e
    unfold World.freeze
    split
    ·rfl
    ·simp only [World.cell?,Array.getElem?_modify,if_true]
     have:w.drew.heap[d]?=w.heap[d]?:=rfl
     rw [this,q2]
     rfl
   ·exact j5 (hoth d e) j
  have hsz:(w.drew.freeze ⟨g,0,none⟩ l.length).heap.size=w.heap.size:=by
   unfold World.freeze
   split
   ·rfl
   ·simp only [Array.size_modify]
    rfl
  have hos:(w.drew.freeze ⟨g,0,none⟩ l.length).os=w.os∧(w.drew.freeze ⟨g,0,none⟩ l.length).tape=w.tape∧(w.drew.freeze ⟨g,0,none⟩ l.length).output=w.output∧w.drawn<=(w.drew.freeze ⟨g,0,none⟩ l.length).drawn:=by
   unfold World.freeze
   split
   ·exact ⟨rfl,rfl,rfl,Nat.le_succ _⟩
   ·exact ⟨rfl,rfl,rfl,Nat.le_succ _⟩
  generalize w.drew.freeze ⟨g,0,none⟩ l.length=w' at hoth hcell hsz hos ⊢
  have hkeep:Keep (fun o=>∃j,o= .cell b j) bV K w K w':=by
   refine ⟨⟨hos.1,hos.2.1,hos.2.2,by omega,fun d _ hd=>⟨hd,hoth d (hgne hd (by simp))⟩,fun d n o hd _=>⟨n,o,hd,Mr _,fun j _=>hcell d j⟩,fun d hd=>.inl hd⟩,fun d n o hd hE=>⟨hd,hoth d (hgne hd (fun m e=>by injection e with _ e;exact hE ⟨1,e⟩))⟩,fun _ _ h=>h,fun d hd _=>⟨hd,hoth d (hgne hd (by simp))⟩⟩
  have hsub:HRel K w (qN H b):=⟨(erase_sub.map (·.1)).nodup hh.nd,fun c o hm=>hh.ok c o (erase_sub.subset hm)⟩
  exact ⟨_,_,_,K,rfl,h,hkeep.fk (fun ⟨_,e⟩=>by cases e),fun d hd=>hk d (by omega),hsub.keep hkeep (fun d o hm=>⟨fun h=>h,fun j ⟨q,e⟩=>kj hh.nd hm (by injection e)⟩),hP (by omega)⟩
end Go.Proofs.YtgopigkdcmhbbaaGreatDoor
end
section
namespace Go.Proofs.YtgopigkdcmhbbaaGreatDoor
open Go Go.Aw
theorem cV (hb:qD H b):Aw.Sub H ((b,o)::H):=Sub.of fun c x hc=>(qg (qT hb hc)).trans hc
theorem bi (h:Aw.Sub H H1) (g:∀b o,qn H1 b=some o->qn H2 b=some o):Aw.Sub H H2:=fun b o hb=>by
 obtain ⟨o',h1,h2⟩:=h b o hb
 exact ⟨o',g b o' h1,h2⟩
def jF (val:Nat->List UInt8):Nat->List UInt8
 |0=>[]
 |n+1=>jF val n++val n
theorem ui (h:∀n,(val n).length=16):∀n,(jF val n).length=16*n
 |0=>rfl
 |n+1=>by rw [jF,Mi,ui h n,h];omega
theorem WZ (hg:qn (qN H b) b5=some (.cells (jp v))) (hv:v.length=16) (K:Nat->BK) (w:World) (x:Value) (hh:HRel K w (qN H b)) (hr:RepV K w (.hso b5 0 16) x):
  Src Tryz.prog w K 1 (v.map ql) x∧∃ad c,x= .slice (some ad) v.length c∧∀j y,v[j]?=some y->w.cell? (ad.add j)=some (.int .u8 y.toNat):=by
 have h1:=Ki (P:=Tryz.prog) hh hr hg (by rw [qw,hv];exact Mr _)
 have he:(((jp v).drop 0).take 16).map (fun e=>[e.view1])=v.map ql:=by
  rw [List.drop_zero,qV hv]
  simp only [jp,My]
  rfl
 rw [he] at h1
 refine ⟨h1,?_⟩
 obtain ⟨cap,rfl,_,_,_,_⟩:=hr.hso_inv
 obtain ⟨_,c,T,hb,hc,hcell⟩:=hh.ok b5 _ (qP hg)
 refine ⟨_,cap,by rw [hv],fun j y hj=>?_⟩
 obtain ⟨u,e1,_,e3⟩:=hcell j (.int .u8 (y.toNat:Int)) (by simp [jp,hj,bD])
 obtain ⟨rfl,_⟩:=e3.int_inv
 have:w.cell? ⟨b5,j,none⟩=some (.int .u8 (y.toNat:Int)):=by rw [jQ hb];exact e1
 by_cases hj0:j=0
 ·subst hj0;simpa [Addr.add] using this
 ·simpa [Addr.add,hj0] using this
theorem ph {R:D->AH->Prop} (hg:Kst H) (hl:∀n,(val n).length=16)
  (hval:∀n:Nat,n<68->∀H1,Aw.Sub H H1->∀R:D->AH->Prop,R (.agg (jp (val n))) H1->ACall Tryz.prog g (um [.i (n:Int)] caps) H1 R)
  (h:R (.agg (jp (kz 1 [kz 9 [jF val 68]]))) H):ACall Tryz.prog 53 [.fn g caps] H R:=by
 refine b53 fun hf=>?_
 have hbig:=qj
 simp+contextual only [x53,↓B2,↓XP,qh,qa,↓XI]
 intro b2 h2
 refine QO (fun b=>BldJ b []) (fun b K w h1 h2=>⟨h1,_,_,h2,.inl rfl,.inl ⟨rfl,none,rfl⟩,.inl ⟨rfl,rfl⟩⟩) (fun b=>BldJ.ok) (by intro w;exact Tryz.zeroValue114 w) ?_
 intro b3 h3
 obtain ⟨n32,f3⟩:=h3
 simp+contextual only [qo]
 obtain ⟨t,ht⟩:∃t:Nat,t=68:=⟨_,rfl⟩
 have hh:R (.agg (jp (kz 1 [kz 9 [jF val t]]))) H:=by rw [ht];exact h
 clear h
 refine XW.loopS hmm 23 (fun n:Nat=>[(0,.fn g caps),(2,.ptr b2 0),(3,.ptr b3 0),(7,.i (n:Int))]) (fun n=>(b3,.lp (BldJ b3 (jF val n)) [])::(b2,.cells (barr 16 []))::H) (fun n=>t - n) (fun n=>n<=t) 0 (Nat.zero_le _) ⟨rfl,rfl,rfl,rfl,rfl,trivial⟩ rfl ?_
 intro n z hn K hN hE hR
 dsimp only [fl,zz,qa,qb]
 have hkl:=ui hl n
 have hst:jF val (n+1)=jF val n++val n:=rfl
 have hh2:n=t->R (.agg (jp (kz 1 [kz 9 [jF val n]]))) H:=fun e=>by rw [e];exact hh
 generalize jF val n=w at hkl hst hh2
 have hg2:Kst ((b2,.cells (barr 16 []))::H):=hg.push h2
 have hs3:Aw.Sub H ((b3,.lp (BldJ b3 w) [])::(b2,.cells (barr 16 []))::H):=bi (cV h2) fun c o hc=>(qg (qT (H:=(b2,.cells (barr 16 []))::H) ⟨n32,f3⟩ hc)).trans hc
 by_cases hlt:n<t
 ·have hlt':((n:Int)<68)=True:=eq_true (by omega)
  simp+contextual only [hlt',↓B2,↓XP,qo]
  refine hval n (by omega) _ hs3 _ ?_
  have hvl:=hl n
  generalize val n=v at hvl hst
  simp+contextual only [qw,Nat.mul_one,Nat.sub_zero,hvl,↓Jt,qh,XW1,qb,qe,↓XH]
  intro b5 h5
  obtain ⟨n53,n52,f5⟩:=h5
  have hge:qn (qN ((b5,.cells (jp v))::(b3,.lp (BldJ b3 w) [])::(b2,.cells (barr 16 []))::H) b3) b5=some (.cells (jp v)):=by simp [qN,qn,n53]
  refine Q9 (l:=w) (m:=v) (by simp [qn,n53]) (by intro e;rw [e] at hvl;simp at hvl) (by omega) (WZ hge hvl) ?_
  simp+contextual only [qk,n53,<-hst,↓XP,qo,XW1]
  rw [qi (by omega)]
  exact hN (n+1) _ _ (by omega) (by omega) ⟨rfl,rfl,rfl,rfl,rfl,trivial⟩ (kV rfl)
 ·have hnt:n=t:=by omega
  have hlt':((n:Int)<68)=False:=eq_false (by omega)
  simp+contextual only [hlt',↓B2,↓XP,qo]
  apply hE
  have h:=hh2 hnt
  simp+contextual only [↓B2,↓XP,qo,XW1]
  have hwn:w≠ []:=by intro e;rw [e] at hkl;simp at hkl;omega
  refine Ym (l:=w) (by simp [qn]) hwn (by omega) ?_
  simp+contextual only [Nat.mul_one,vW,↓XP,qh,XW1,qe]
  refine fun _=>UH (c:=9) (l:= [w]) hg2 (by decide) (by simp) (fun x hx=>by rw [List.mem_singleton.1 hx];omega) ?_
  have h9:=jW 9 [w]
  generalize kz 9 [w]=k9 at h9 h
  simp+contextual only [qw,Nat.mul_one,Nat.sub_zero,h9,↓B2,↓Jt,qh,XW1,qb,qe,↓XH]
  intro b6 h6
  obtain ⟨n62,f6⟩:=h6
  simp+contextual only [qw,h9,qV h9,zV]
  have hg3:Kst ((b6,.cells (jp k9))::(b2,.cells (barr 16 []))::H):=hg2.push ⟨Ne.symm n62,f6⟩
  refine ⟨oR _,fun _=>UH (c:=1) (l:= [k9]) hg3 (by decide) (by simp) (fun x hx=>by rw [List.mem_singleton.1 hx];omega) ?_⟩
  have h1:=jW 1 [k9]
  generalize kz 1 [k9]=k1 at h1 h
  simp+contextual only [qw,qg,qk,n62,h1,qV h1,jj,show (barr 16 []).drop 16= [] from rfl,show (barr 16 []).length=16 from rfl,↓XP,qh,XW1]
  exact h
end Go.Proofs.YtgopigkdcmhbbaaGreatDoor
end
section
namespace Go.Aw
open Go Go.RowKit
section
variable {κ α:Type} [DecidableEq κ]
def QK:List (κ×α)->κ->Option α
 | [],_=>none
 |p::r,k=>if k=p.1 then some p.2 else QK r k
def Ve:List (κ×α)->κ->α->List (κ×α)
 | [],k,v=>[(k,v)]
 |p::r,k,v=>if k=p.1 then (k,v)::r else p::Ve r k v
theorem cP {m:List (κ×α)} {k:κ} {v:α} (h:QK m k=some v):(k,v)∈m:=by
 induction m with
 |nil=>cases h
 | cons p r ih=>
  simp only [QK] at h
  split at h
  ·rename_i e
   injection h with h
   subst e h
   exact .head _
  ·exact .tail _ (ih h)
theorem lY {m:List (κ×α)} {k:κ} {v:α} {p:κ×α} (h:p∈Ve m k v):p=(k,v)∨p∈m:=by
 induction m with
 |nil=>exact .inl (by simpa [Ve] using h)
 | cons q r ih=>
  unfold Ve at h
  split at h
  ·rcases List.mem_cons.1 h with h|h
   ·exact .inl h
   ·exact .inr (.tail _ h)
  ·rcases List.mem_cons.1 h with h|h
   ·exact .inr (h▸ .head _)
   ·rcases ih h with h|h
    ·exact .inl h
    ·exact .inr (.tail _ h)
structure KeyOk (kc:κ->List D) (l:List CT):Prop where
 eq:∀a b,eqCells (kc a) (kc b)=decide (a=b)
 fit:∀a,fits l (kc a)
 same:∀a b,sameK (kc a) (kc b)
variable {kc:κ->List D} {l:List CT} {vd:α->D} {m:List (κ×α)} {k:κ}
def wR (kc:κ->List D) (vd:α->D) (m:List (κ×α)):List (D×D):=m.map fun p=>(.agg (kc p.1),vd p.2)
theorem YC (h:KeyOk kc l):yg true l (wR kc vd m) (.agg (kc k)):=by
 refine ⟨rfl,h.fit k,fun p hp=>?_⟩
 obtain ⟨q,_,rfl⟩:=List.mem_map.1 hp
 exact ⟨rfl,h.fit _,h.same _ _⟩
theorem bg (h:KeyOk kc l):kT (wR kc vd m) (kc k)=(QK m k).map vd:=by
 induction m with
 |nil=>rfl
 | cons p r ih=>
  show (if eqCells (kc k) (cellsOf (.agg (kc p.1)))=true then some (vd p.2) else kT (wR kc vd r) (kc k))=_
  rw [show cellsOf (.agg (kc p.1))=kc p.1 from rfl,h.eq,ih]
  simp only [QK,decide_eq_true_eq]
  split<;>rfl
theorem eO (h:KeyOk kc l):oe (wR kc vd m) (.agg (kc k)) (vd v)=wR kc vd (Ve m k v):=by
 induction m with
 |nil=>rfl
 | cons p r ih=>
  show (if eqCells (kc k) (cellsOf (.agg (kc p.1)))=true then (.agg (kc k),vd v)::wR kc vd r else (.agg (kc p.1),vd p.2)::oe (wR kc vd r) (.agg (kc k)) (vd v))=_
  rw [show cellsOf (.agg (kc p.1))=kc p.1 from rfl,h.eq,ih]
  simp only [Ve,decide_eq_true_eq]
  split<;>rfl
end
end Go.Aw
end
section
namespace Go.Proofs.YtgopigkdcmhbbaaGreatDoor
open Go Go.Aw
def KY (p:Nat×Nat):List D:= [.i (p.1:Int),.i (p.2:Int)]
def Ww (v:List UInt8):D:= .agg (jp v)
theorem GR:KeyOk KY [.i,.i]:=by
 refine ⟨fun a b=>?_,fun a=>?_,fun a b=>?_⟩
 ·obtain ⟨a1,a2⟩:=a
  obtain ⟨b1,b2⟩:=b
  by_cases h1:a1=b1<;>by_cases h2:a2=b2<;>simp [KY,eqCells,cellEq,h1,h2,Int.ofNat_inj]
 ·simp [KY,fits]
 ·simp [KY,sameK]
abbrev Mem:=List ((Nat×Nat)×List UInt8)
def MemOk (seed:List UInt8) (m:Mem):Prop:=∀p∈m,p.2=jn seed p.1.1 p.1.2
theorem MemOk.look (h:MemOk seed m) (hv:QK m k=some v):v=jn seed k.1 k.2:=h (k,v) (cP hv)
theorem MemOk.upd (h:MemOk seed m) (k:Nat×Nat):MemOk seed (Ve m k (jn seed k.1 k.2)):=fun p hp=>by
 rcases lY hp with rfl|hp
 ·rfl
 ·exact h p hp
def MemJ (seed:List UInt8) (b:Nat):List D->(Nat->BK)->World->Prop:=fun _ K w=>K b= .tok 0 (.cell b 0)∧∃m:Mem,MemOk seed m∧MpAt K w b (wR KY Ww m)
theorem VQ (h:RepV K w (.agg cs) v) (hc:∀d∈cs,∃k n,d= .int k n):RepV K' w' (.agg cs) v:=by
 cases h with
 | agg _ vs hl hone hrep=>
  refine .agg _ vs hl hone fun j d u hd hu=>?_
  obtain ⟨k,n,rfl⟩:=hc d (Mn hd)
  obtain ⟨rfl,hin⟩:=(hrep j _ u hd hu).int_inv
  exact .int _ _ hin
theorem Kc (h:MpAt K w b (wR KY Ww m)) (hb:w'.heap[b]?=w.heap[b]?):MpAt K' w' b (wR KY Ww m):=by
 obtain ⟨c,h1,h2,h3⟩:=h
 refine ⟨c,hb.trans h1,h2,fun j p hp=>?_⟩
 obtain ⟨e,e1,e2,e3,e4⟩:=h3 j p hp
 obtain ⟨q,_,rfl⟩:=List.mem_map.1 (Mn hp)
 refine ⟨e,e1,e2,VQ e3 fun d hd=>?_,VQ e4 fun d hd=>?_⟩
 ·simp only [KY,Mt,M0,or_false] at hd
  rcases hd with rfl|rfl<;>exact ⟨_,_,rfl⟩
 ·obtain ⟨y,_,rfl⟩:=List.mem_map.1 hd
  exact ⟨_,_,rfl⟩
theorem MemJ.ok:iZ b (MemJ seed b):=by
 intro pre K w K' w' h hk
 obtain ⟨h1,m,h2,h3⟩:=h
 have g:=hk b 0 0 h1
 exact ⟨g.1,m,h2,Kc h3 g.2⟩
theorem reown (hs:St K w F H t) (hg:qn H b=some o) (hlt:b<w.heap.size) (hx:x= .priv∨∃j,x= .tok 0 (.cell b j)) (hK:K b= .priv∨∃j,K b= .tok 0 (.cell b j))
  (ho:AO.at_ (gJ K b x) w b o'):∃K',FK K w K' w∧St K' w F (qH H b o') t:=by
 have hne:∀{c:Nat} {y:BK},K c=y->y≠ .priv->(∀j,y≠ .tok 0 (.cell b j))->c≠b:=fun q1 q2 q3 e=>by
  rw [e] at q1
  rcases hK with h|⟨j,h⟩
  ·exact q2 (q1.symm.trans h)
  ·exact q3 j (q1.symm.trans h)
 have hk':Keep (fun o=>∃j,o= .cell b j) (fun c=>c=b) K w (gJ K b x) w:=by
  refine ⟨⟨rfl,rfl,⟨rfl,Mr _⟩,Mr _,fun c _ hc=>⟨?_,rfl⟩,fun c n o hc hn=>⟨n,o,?_,Mr _,fun _ _=>rfl⟩,fun c hc=>?_⟩,fun c n o hc hE=>⟨?_,rfl⟩,fun c n hc=>?_,fun c hc hcb=>⟨?_,rfl⟩⟩
  ·rw [qZ _ _ (hne hc (by simp) (by simp))];exact hc
  ·rw [qZ _ _ (hne hc (by simp) (by intro j e;injection e with e _;omega))];exact hc
  ·by_cases e:c=b
   ·exact .inr (by rw [e];exact hlt)
   ·exact .inl (by rw [qZ _ _ e];exact hc)
  ·rw [qZ _ _ (hne hc (by simp) (fun j e=>by injection e with _ e;exact hE ⟨j,e⟩))];exact hc
  ·by_cases e:c=b
   ·subst e
    rw [jw] at hc
    rcases hx with rfl|⟨j,rfl⟩
    ·cases hc
    ·injection hc with _ hc;cases hc
   ·rwa [qZ _ _ e] at hc
  ·rw [qZ _ _ hcb];exact hc
 refine ⟨gJ K b x,hk'.fk (fun ⟨_,e⟩=>by cases e),⟨fun c hc=>?_,⟨by rw [jS];exact hs.hrel.nd,fun c q hm=>?_⟩,hs.len,fun i d v hd hv=>(hs.slot i d v hd hv).keep hk' (fun j ⟨_,e⟩=>by cases e)⟩⟩
 ·rw [qZ _ _ (by omega)];exact hs.krel c hc
 ·rcases kR hs.hrel.nd hm with ⟨rfl,rfl⟩|⟨q1,q2⟩
  ·exact ho
  ·exact AO.keep hk' q1 (fun j ⟨_,e⟩=>q1 (by injection e)) (hs.hrel.ok c q q2)
theorem Gz.memClose {k:List D->AH->Prop} (hg:qn H b=some (.mp (wR KY Ww m))) (hm:MemOk seed m) (h:k F (qH H b (.lp (MemJ seed b) []))):Gz F H k:=by
 intro K w t hs
 obtain ⟨h1,h2⟩:=hs.hrel.ok b _ (qP hg)
 obtain ⟨K',g1,g2⟩:=reown hs hg (hs.krel.lt_of (by rw [h1];simp)) (x:= .tok 0 (.cell b 0)) (.inr ⟨0,rfl⟩) (.inl h1) (o':= .lp (MemJ seed b) []) ⟨⟨0,0,jw _ _ _⟩,⟨jw _ _ _,m,hm,Kc h2 rfl⟩,MemJ.ok⟩
 exact ⟨F,_,K',h,g1,g2⟩
theorem Gz.memOpen {k:List D->AH->Prop} (hg:qn H b=some (.lp (MemJ seed b) [])) (h:∀m,MemOk seed m->k F (qH H b (.mp (wR KY Ww m)))):Gz F H k:=by
 intro K w t hs
 obtain ⟨_,⟨h1,m,hm,h2⟩,_⟩:=hs.hrel.ok b _ (qP hg)
 obtain ⟨K',g1,g2⟩:=reown hs hg (hs.krel.lt_of (by rw [h1];simp)) (x:= .priv) (.inl rfl) (.inr ⟨0,h1⟩) (o':= .mp (wR KY Ww m)) ⟨jw _ _ _,Kc h2 rfl⟩
 exact ⟨F,_,K',h m hm,g1,g2⟩
theorem nG {i c f t:Int} {n:Nat} {v:List UInt8} {H:AH} {R:D->AH->Prop} (ht:t=f+n) (hg:Kst H) (hv:v.length=16) (hf0:0<=f) (hfn:f+n<=1000) (h:R (.agg (jp (wQ i c v f n))) H):
  ACall Tryz.prog 55 [.i i,.i c,.i f,.i t,.agg (jp v)] H R:=by
 subst ht
 exact az hg hv hf0 hfn h
theorem Wv (hd:∀x:D,d=x.view1->x=d) (h:qn H b=some (.cells [d])) (hs:Aw.Sub H H1):qn H1 b=some (.cells [d]):=by
 obtain ⟨o',g1,g2⟩:=hs _ _ h
 rcases g2 with rfl|g2
 ·exact g1
 ·cases o' with
  | cells cs=>
   simp only [ZL,AO.cells.injEq] at g2
   match cs,g2 with
   | [x],g2=>
    simp only [List.map_cons,List.map_nil,List.cons.injEq,and_true] at g2
    rw [g1,hd x g2]
   | [],g2=>simp at g2
   |_::_::_,g2=>simp at g2
  |_=>simp [ZL] at g2
theorem xa (h:qn H b=some (.cells [.i k])) (hs:Aw.Sub H H1):qn H1 b=some (.cells [.i k]):=Wv (fun x hx=>by cases x<;>simp_all [D.view1]) h hs
theorem dZ (h:qn H b=some (.cells [.str k])) (hs:Aw.Sub H H1):qn H1 b=some (.cells [.str k]):=Wv (fun x hx=>by cases x<;>simp_all [D.view1]) h hs
theorem tw {J:List D->(Nat->BK)->World->Prop} (h:qn H b=some (.lp J pre)) (hs:Aw.Sub H H1):qn H1 b=some (.lp J pre):=by
 obtain ⟨o',g1,g2⟩:=hs _ _ h
 rcases g2 with rfl|g2
 ·exact g1
 ·cases o' with
  |lp J' pre'=>simp only [ZL] at g2;rw [g2];exact g1
  |_=>simp [ZL] at g2
def sC (seed:List UInt8) (k:Int) (c:Nat):List UInt8:=wQ k c (kY seed k c) 0 3
theorem ll (seed:List UInt8) (k:Int) (c:Nat):(sC seed k c).length=16:=vG (yL _ _ _) _
theorem ir {seed:List UInt8} {k:Int} {c bk bs:Nat} {H:AH} {R:D->AH->Prop} (hg:Kst H) (hk:qn H bk=some (.cells [.i k])) (hs:qn H bs=some (.cells [.str seed])) (hl:seed.length<=64) (h:R (.agg (jp (sC seed k c))) H):
  ACall Tryz.prog 83 [.i (c:Int),.ptr bk 0,.ptr bs 0] H R:=by
 refine b83 fun hf=>?_
 have hbig:=qj
 simp+contextual only [↓U83,↓U83.1,↓XP,qh,qa,qb]
 intro b4 h4
 have e1:=qT h4 hk
 have e2:=qT h4 hs
 simp+contextual only [qg e1,qg e2,hk,hs,↓XP,qh,XW1]
 have hK:Kst ((b4,.cells (barr 16 []))::H):=hg.push h4
 refine fun _ _=>⟨_,fun H1 hs1=>GJ (hK.sub hs1) hl ⟨rfl,rfl⟩,?_⟩
 rw [show sC seed k c=wQ k c (kY seed k c) 0 3 from rfl] at h
 have hsl:=yL seed k c
 generalize kY seed k c=u at hsl h
 simp+contextual only [↓XP,qo,XW1]
 refine ⟨_,fun H1 hs1=>nG (n:=3) rfl (hK.sub hs1) hsl (by omega) (by omega) ⟨rfl,rfl⟩,?_⟩
 have hal:=vG (i:=k) (c:=c) (f:=0) hsl 3
 generalize wQ k c u 0 3=a at hal h
 simp+contextual only [qw,hal,qV hal,jj,↓XP,qh,XW1,qb]
 exact h
theorem GN (seed:List UInt8) (k:Int):∀n,Jl seed k n=jF (sC seed k) n
 |0=>rfl
 |n+1=>by rw [Jl,jF,GN seed k n];rfl
theorem iB (seed:List UInt8) (k:Nat):jn seed 0 k=kz 1 [kz 9 [jF (sC seed k) 68]]:=by
 rw [jn,W6,GN]
theorem Qc:∀{H:AH},qn H b=some o->qH H b o=H
 | (c,x)::r,h=>by
  by_cases e:b=c
  ·subst e
   rw [jf] at h
   injection h with h
   rw [wG,h]
  ·rw [qg e] at h
   rw [qk e,Qc h]
def Vk (bm bs ba:Nat):D:= .fn 82 [.ptr bm 0,.ptr bs 0,.ptr ba 0]
structure NodeH (H:AH) (seed:List UInt8) (bm bM bs ba:Nat):Prop where
 m:qn H bm=some (.cells [.mp (some bM)])
 M:qn H bM=some (.lp (MemJ seed bM) [])
 s:qn H bs=some (.cells [.str seed])
 a:qn H ba=some (.cells [Vk bm bs ba])
theorem Gj {R:D->AH->Prop} (h:∀bs bM bm ba,qD H bs->(bM≠bs∧qD H bM)->(bm≠bM∧bm≠bs∧qD H bm)->(ba≠bm∧ba≠bM∧ba≠bs∧qD H ba)->
   R (Vk bm bs ba) ((ba,.cells [Vk bm bs ba])::(bm,.cells [.mp (some bM)])::(bM,.lp (MemJ seed bM) [])::(bs,.cells [.str seed])::H)):ACall Tryz.prog 41 [.str seed] H R:=by
 refine r41 fun hf=>?_
 have hbig:=qj
 simp+contextual only [x41,↓U41,↓Jt,qh,XW1,qa]
 intro bs h1 bM h2 bm h3
 refine Gz.memClose (seed:=seed) (b:=bM) (m:= []) ?_ (fun p hp=>by cases hp) ?_
 ·simp [qn,h3.1,wR]
 obtain ⟨n21,f2⟩:=h2
 obtain ⟨n32,n31,f3⟩:=h3
 simp+contextual only [zt,Qy,qk,wG,n32,↓U41,↓XP,qh,XW1]
 intro ba h4
 exact ⟨_,Sbn.sub (List.Sublist.refl _),h bs bM bm ba h1 ⟨Ne.symm n21,f2⟩ ⟨Ne.symm n32,Ne.symm n31,f3⟩ ⟨Ne.symm h4.1,Ne.symm h4.2.1,Ne.symm h4.2.2.1,h4.2.2.2⟩⟩
theorem NodeH.push (h:NodeH H seed bm bM bs ba) (hb:qD H b):NodeH ((b,o)::H) seed bm bM bs ba:=
 ⟨(qg (qT hb h.m)).trans h.m,(qg (qT hb h.M)).trans h.M,(qg (qT hb h.s)).trans h.s,(qg (qT hb h.a)).trans h.a⟩
theorem NodeH.sub (h:NodeH H seed bm bM bs ba) (hs:Aw.Sub H H1):NodeH H1 seed bm bM bs ba:=
 ⟨Wv (fun x hx=>by cases x<;>simp_all [D.view1]) h.m hs,tw h.M hs,dZ h.s hs,Wv (fun x hx=>by cases x<;>simp_all [D.view1,Vk]) h.a hs⟩
theorem NodeH.ne (h:NodeH H seed bm bM bs ba):bM≠bm∧bM≠bs∧bM≠ba:=by
 refine ⟨fun e=>?_,fun e=>?_,fun e=>?_⟩<;>subst e
 ·have:=h.M.symm.trans h.m;simp at this
 ·have:=h.M.symm.trans h.s;simp at this
 ·have:=h.M.symm.trans h.a;simp at this
theorem JS (hl:seed.length<=64):∀(l k:Nat) {H:AH} {R:D->AH->Prop} {bm bM bs ba:Nat},Kst H->NodeH H seed bm bM bs ba->(k+1)*2 ^ l<=100000->l<=16->R (.agg (jp (jn seed l k))) H->
  ACall Tryz.prog 82 [.i (l:Int),.i (k:Int),.ptr bm 0,.ptr bs 0,.ptr ba 0] H R:=by
 intro l
 induction l using Nat.strongRecOn with
 |_ l ih=>
 intro k H R bm bM bs ba hg hn hk hl16 h
 obtain ⟨q1,q2,q3⟩:=hn.ne
 refine b82 fun hf=>?_
 have hbig:=qj
 simp+contextual only [x82,↓B4,↓JX,↓XP,qh,XW1,qa,qb]
 intro b6 h6 b7 h7
 obtain ⟨n76,f7⟩:=h7
 have m6:bM≠b6:=qT h6 hn.M
 have m7:bM≠b7:=qT f7 hn.M
 have a6:bm≠b6:=qT h6 hn.m
 have a7:bm≠b7:=qT f7 hn.m
 have nb:=jJ seed l k
 refine Gz.memOpen (seed:=seed) (b:=bM) (by rw [qg m7,qg m6];exact hn.M) fun m hm=>?_
 rw [qk m7,qk m6]
 have hM1:qn (qH H bM (.mp (wR KY Ww m))) bM=some (.mp (wR KY Ww m)):=J0 (by rw [hn.M];rfl)
 have hm1:qn (qH H bM (.mp (wR KY Ww m))) bm=some (.cells [.mp (some bM)]):=(GO (Ne.symm q1)).trans hn.m
 have hky:yg true [.i,.i] (wR KY Ww m) (.agg [.i (l:Int),.i (k:Int)]):=YC (k:=(l,k)) GR
 have hlk:kT (wR KY Ww m) [.i (l:Int),.i (k:Int)]=(QK m (l,k)).map Ww:=bg (k:=(l,k)) GR
 have h1b:∀x:List UInt8,(jp x).map D.wk1=jp x:=fun x=>by simp [jp,bD,D.wk1,Function.comp_def]
 rcases hlp:QK m (l,k) with _|v
 ·rw [hlp] at hlk
  simp+contextual only [qg a7,qg a6,qg m7,qg m6,qg n76,jf,hM1,hm1,hky,hlk,oZ,D.wkT,Option.map_none,↓B4,↓JX,↓Jt,qh,XW1,qb,qe]
  intro _ b8 h8
  obtain ⟨n87,n86,f8⟩:=h8
  have m8:bM≠b8:=qT f8 hn.M
  refine Gz.memClose (seed:=seed) (b:=bM) (m:=m) (by rw [qg m8,qg m7,qg m6];exact hM1) hm ?_
  rw [qk m8,qk m7,qk m6,Q3,Qc hn.M]
  simp only [↓B4,↓JX,↓XP,qh,XW1]
  intro YT h10
  obtain ⟨n108,n107,n106,f10⟩:=h10
  have hn4:NodeH ((YT,.cells (barr 16 []))::(b8,.cells (barr 16 []))::(b7,.cells (barr 16 []))::(b6,.cells [.i (k:Int)])::H) seed bm bM bs ba:=(((hn.push h6).push ⟨Ne.symm n76,f7⟩).push ⟨Ne.symm n87,Ne.symm n86,f8⟩).push ⟨Ne.symm n108,Ne.symm n107,Ne.symm n106,f10⟩
  have hg4:Kst ((YT,.cells (barr 16 []))::(b8,.cells (barr 16 []))::(b7,.cells (barr 16 []))::(b6,.cells [.i (k:Int)])::H):=(((hg.push h6).push ⟨Ne.symm n76,f7⟩).push ⟨Ne.symm n87,Ne.symm n86,f8⟩).push ⟨Ne.symm n108,Ne.symm n107,Ne.symm n106,f10⟩
  have hk6:qn ((YT,.cells (barr 16 []))::(b8,.cells (barr 16 []))::(b7,.cells (barr 16 []))::(b6,.cells [.i (k:Int)])::H) b6=some (.cells [.i (k:Int)]):=by
   rw [qg n106,qg n86,qg n76,jf]
  have m10:bM≠YT:=qT f10 hn.M
  have a10:bm≠YT:=qT f10 hn.m
  have a8:bm≠b8:=qT f8 hn.m
  have c6:ba≠b6:=qT h6 hn.a
  have c7:ba≠b7:=qT f7 hn.a
  have c8:ba≠b8:=qT f8 hn.a
  have c10:ba≠YT:=qT f10 hn.a
  have hna:qn H ba=some (.cells [.fn 82 [.ptr bm 0,.ptr bs 0,.ptr ba 0]]):=hn.a
  rcases Nat.eq_zero_or_pos l with hl0|hl0
  case' inl=>
   refine ⟨fun _=>?_,fun c=>absurd (show (l:Int)=0 by omega) c⟩
   refine ph (val:=sC seed k) hg4 (ll seed k) (fun n hn2 H1 hs1 R1 hr1=>ir (hg4.sub hs1) (xa hk6 hs1) (dZ hn4.s hs1) hl hr1) ?_
   have hlf:kz 1 [kz 9 [jF (sC seed k) 68]]=jn seed l k:=by rw [hl0];exact (iB seed k).symm
   rw [hlf]
  case' inr=>
   have hl0':((l:Int)=0)=False:=eq_false (by omega)
   obtain ⟨l',hl1⟩:=Nat.exists_eq_succ_of_ne_zero (Nat.pos_iff_ne_zero.1 hl0)
   have hpw:2 ^ l=2*2 ^ l':=by rw [hl1,Nat.pow_succ];omega
   have hp0:1<=2 ^ l':=Nat.one_le_two_pow
   have hk1:(2*k+1)*2 ^ l'<=100000:=Mq (by rw [hpw,<-Nat.mul_assoc];exact Nat.mul_le_mul_right _ (by omega)) hk
   have hk2:(2*k+1+1)*2 ^ l'<=100000:=Mq (by rw [hpw,<-Nat.mul_assoc];exact Nat.mul_le_mul_right _ (by omega)) hk
   have hkk:k<=100000:=by
    have:=Nat.le_mul_of_pos_right (2*k+1) hp0
    omega
   have hw1:IntKind.i64.wrap ((l:Int) - 1)=(l':Int):=by rw [qm (by omega) (by omega)];omega
   have hw2:IntKind.i64.wrap (2*(k:Int))=((2*k:Nat):Int):=by rw [qm (by omega) (by omega)];omega
   have hw3:IntKind.i64.wrap (((2*k:Nat):Int)+1)=((2*k+1:Nat):Int):=qi (by omega)
   simp+contextual only [hl0',qg c10,qg c8,qg c7,qg c6,hna,qg n106,qg n86,qg n76,jf,hw1,hw2,↓JX,↓XP,qh,XW1]
   refine fun _=>⟨_,fun H1 hs1=>ih l' (by omega) (2*k) (hg4.sub hs1) (hn4.sub hs1) hk1 (by omega) ⟨rfl,rfl⟩,?_⟩
   have n0:=jJ seed l' (2*k)
   have n1:=jJ seed l' (2*k+1)
   have hns:jn seed l k=kz 2 [jn seed l' (2*k),jn seed l' (2*k+1)]:=by rw [hl1];rfl
   simp+contextual only [qg c10,qg c8,qg c7,qg c6,hna,qg n106,qg n86,qg n76,jf,hw1,hw2,hw3,↓JX,↓XP,qh,XW1]
   refine fun _=>⟨_,fun H1 hs1=>ih l' (by omega) (2*k+1) (hg4.sub hs1) (hn4.sub hs1) hk2 (by omega) ⟨rfl,rfl⟩,?_⟩
   generalize jn seed l' (2*k)=a at n0 hns ⊢
   generalize jn seed l' (2*k+1)=a2 at n1 hns ⊢
   simp+contextual only [↓JX,↓XP,qo,XW1]
   refine ⟨_,fun H1 hs1=>rk (hg4.sub hs1) n0 n1 ⟨rfl,rfl⟩,?_⟩
   rw [<-hns]
  all_goals simp+contextual only [qw,nb,↓B4,↓JX,↓XP,qh,XW1,qb]
  all_goals refine Gz.memOpen (seed:=seed) (b:=bM) (by rw [qg m10,qg m8,qg m7,qg m6];exact hn.M) fun m2 hm2=>?_
  all_goals rw [qk m10,qk m8,qk m7,qk m6]
  all_goals have hM2:qn (qH H bM (.mp (wR KY Ww m2))) bM=some (.mp (wR KY Ww m2)):=J0 (by rw [hn.M];rfl)
  all_goals have hm2':qn (qH H bM (.mp (wR KY Ww m2))) bm=some (.cells [.mp (some bM)]):=(GO (Ne.symm q1)).trans hn.m
  all_goals have hky2:yg true [.i,.i] (wR KY Ww m2) (.agg [.i (l:Int),.i (k:Int)]):=YC (k:=(l,k)) GR
  all_goals have hup2:oe (wR KY Ww m2) (.agg [.i (l:Int),.i (k:Int)]) (.agg (jp (jn seed l k)))=wR KY Ww (Ve m2 (l,k) (jn seed l k)):=eO (k:=(l,k)) GR
  all_goals have hok2:=hm2.upd (l,k)
  all_goals simp+contextual only [qw,qg a10,qg a8,qg a7,qg a6,qg m10,qg m8,qg m7,qg m6,qk m10,qk m8,qk m7,qk m6,qg n106,qg n86,qg n76,jf,hM2,hm2',hky2,hup2,nb,qV nb,jj,Q3,↓JX,↓Jt,qh,XW1,qb,qe]
  all_goals refine fun _=>Gz.memClose (seed:=seed) (b:=bM) (m:=Ve m2 (l,k) (jn seed l k)) (by rw [qg m10,qg m8,qg m7,qg m6];exact J0 (by rw [hn.M];rfl)) hok2 ?_
  all_goals rw [qk m10,qk m8,qk m7,qk m6,Q3,Qc hn.M]
  all_goals simp+contextual only [qw,qg n107,qk n107,qg n87,qk n87,nb,qV nb,jj,↓JX,↓XP,qh,XW1,qb]
  all_goals exact h
 ·rw [hlp] at hlk
  have hv:v=jn seed l k:=hm.look hlp
  rw [<-hv] at h nb
  simp+contextual only [qw,qg a7,qg a6,qg m7,qg m6,qg n76,jf,hM1,hm1,hky,hlk,oZ,D.wkT,Option.map_some,Ww,h1b,↓B4,↓JX,↓Jt,qh,XW1,qb,qe]
  intro _ b8 h8
  obtain ⟨n87,n86,f8⟩:=h8
  have m8:bM≠b8:=qT f8 hn.M
  refine ⟨nb,?_⟩
  refine Gz.memClose (seed:=seed) (b:=bM) (m:=m) (by rw [qg m8,qg m7,qg m6];exact hM1) hm ?_
  rw [qk m8,qk m7,qk m6,Q3,Qc hn.M]
  simp+contextual only [qw,qg n87,qk n87,nb,qV nb,jj,↓JX,↓XP,qh,XW1,qb]
  exact h
def eM (h:Int):Bool:=decide (0<=h)&&decide (h<=6)
theorem Vq {R:D->AH->Prop} (hR:R (.bool (eM h)) H):ACall Tryz.prog 40 [.i h] H R:=by
 refine b40 fun hf=>?_
 have hbig:=qj
 by_cases h2:0<=h
 ·have e2:((0:Int)<=h)=True:=eq_true h2
  by_cases h3:h<=6
  ·have e3:(h<=6)=True:=eq_true h3
   rw [eM,decide_eq_true h2,decide_eq_true h3] at hR
   simp+contextual only [↓U40,e2,e3,↓U40.1,↓XP,qo,qa]
   exact hR
  ·have e3:(h<=6)=False:=eq_false h3
   rw [eM,decide_eq_true h2,decide_eq_false h3] at hR
   simp+contextual only [↓U40,e2,e3,↓U40.1,↓XP,qo,qa]
   exact hR
 ·have e2:((0:Int)<=h)=False:=eq_false h2
  rw [eM,decide_eq_false h2] at hR
  simp+contextual only [↓U40,e2,↓U40.1,↓XP,qo,qa]
  exact hR
def aD (seed:List UInt8) (i:Int):D:=if wT seed i=true then .tup [.agg (jp (jn seed i.toNat 0)),.i 0] else .tup [.agg (barr 16 []),.i 1]
theorem iH (seed:List UInt8) (i:Int):wT seed i=(decide (seed.length=32)&&eM i):=by
 simp [wT,eM]
theorem Yo {R:D->AH->Prop} (hg:Kst H) (h:R (aD seed i) H):ACall Tryz.prog 20 [.str seed,.i i] H R:=by
 refine xA fun hf=>?_
 have hbig:=qj
 by_cases h1:seed.length=32
 ·have e1:decide (((seed.length:Nat):Int)=32)=true:=decide_eq_true (by omega)
  simp only [↓ny,e1,Bool.not_true,↓ny,↓XP,qh,qa,qb]
  intro b4 h4 _
  refine Vq ?_
  have hks:wT seed i=eM i:=by rw [iH,decide_eq_true h1,Bool.true_and]
  by_cases hk:eM i=true
  ·have hk2:=hks.trans hk
   obtain ⟨_,hi1,hi2⟩:seed.length=32∧0<=i∧i<=6:=of_decide_eq_true hk2
   rw [aD,if_pos hk2] at h
   simp+contextual only [hk,↓ny,↓XP,qo,XW1,↓XH]
   refine Gj fun bs bM bm ba q1 q2 q3 q4=>?_
   obtain ⟨n,rfl⟩:=Int.eq_ofNat_of_zero_le hi1
   rw [Mh] at h
   have hn:NodeH ((ba,.cells [Vk bm bs ba])::(bm,.cells [.mp (some bM)])::(bM,.lp (MemJ seed bM) [])::(bs,.cells [.str seed])::(b4,.cells (barr 16 []))::H) seed bm bM bs ba:=
    ⟨by rw [qg (Ne.symm q4.1),jf],by rw [qg (Ne.symm q4.2.1),qg (Ne.symm q3.1),jf],by rw [qg (Ne.symm q4.2.2.1),qg (Ne.symm q3.2.1),qg (Ne.symm q2.1),jf],jf⟩
   have hK:Kst ((ba,.cells [Vk bm bs ba])::(bm,.cells [.mp (some bM)])::(bM,.lp (MemJ seed bM) [])::(bs,.cells [.str seed])::(b4,.cells (barr 16 []))::H):=((((hg.push h4).push q1).push q2).push q3).push q4
   have hb4:ba≠b4∧bm≠b4∧bM≠b4∧bs≠b4:=⟨q4.2.2.2.1,q3.2.2.1,q2.2.1,q1.1⟩
   simp+contextual only [Vk,↓XP,qo,XW1]
   have hp2:=(zd (ht:=n) (by omega)).2.1
   refine JS (by omega) n 0 hK hn (by omega) (by omega) ?_
   have nb:=jJ seed n 0
   generalize jn seed n 0=v at nb h
   simp+contextual only [qk (Ne.symm hb4.1),qk (Ne.symm hb4.2.1),qk (Ne.symm hb4.2.2.1),qk (Ne.symm hb4.2.2.2),qg (Ne.symm hb4.1),qg (Ne.symm hb4.2.1),qg (Ne.symm hb4.2.2.1),qg (Ne.symm hb4.2.2.2),nb,qw,qV nb,jj,↓XP,qh,XW1,qb]
   exact h
  ·have hkf:eM i=false:=by simpa using hk
   rw [aD,if_neg (by rw [hks];exact hk)] at h
   simp+contextual only [hkf,↓ny,↓XP,qh,XW1,qb,↓XH]
   exact h
 ·have e1:(((seed.length:Nat):Int)=32)=False:=eq_false (by omega)
  rw [aD,if_neg (fun c=>h1 (of_decide_eq_true c).1)] at h
  simp+contextual only [↓ny,e1,↓ny,↓XP,qh,XW1,qa,qb]
  exact fun _ _ _=>h
theorem pw (h:wT seed i=true):aD seed i= .tup [.agg (jp (jn seed i.toNat 0)),.i 0]:=if_pos h
theorem th (h:wT seed i=false):aD seed i= .tup [.agg (barr 16 []),.i 1]:=if_neg (by rw [h];decide)
theorem Yz {R:D->AH->Prop} (hg:Kst H) (h:R (fL seed i) H):ACall Tryz.prog 10 [.agg [.str seed,.i i]] H R:=by
 refine YT fun hf=>?_
 have hbig:=qj
 by_cases h4:(4:Int)<i
 ·have e4:((4:Int)<i)=True:=eq_true h4
  rw [g9 (fun c=>by omega)] at h
  simp+contextual only [↓mG,e4,↓mG,↓XP,qh,XW1,qa,qb]
  exact fun _ _ _ _ _=>h
 ·have e4:((4:Int)<i)=False:=eq_false h4
  simp+contextual only [↓mG,e4,↓mG,↓XP,qh,XW1,qa]
  intro b1 h1 b2 h2 _ _
  obtain ⟨n21,f2⟩:=h2
  have hK:Kst ((b2,.cells (barr 16 []++ [.i 0]))::(b1,.cells [.str seed,.i i])::H):=(hg.push h1).push ⟨Ne.symm n21,f2⟩
  cases hk:wT seed i with
  | true=>
   obtain ⟨hk1,hk2,hk3⟩:seed.length=32∧0<=i∧i<=6:=of_decide_eq_true hk
   rw [JL hk (by omega)] at h
   refine Yo (seed:=seed) (i:=i) hK ?_
   rw [pw hk]
   have n2:=jJ seed i.toNat 0
   generalize jn seed i.toNat 0=w at n2 h
   simp+contextual only [↓mG,↓XP,qh,XW1,qb]
   intro _ b4 h4'
   obtain ⟨n42,n41,f4⟩:=h4'
   simp+contextual only [qg n21,qg n42,qk n42,qg n41,n2,qw,qV n2,jj,Gn n2,uN n2,G4 n2,eR n2,Vh,↓XP,qh,XW1,qb,qe]
   exact fun _=>h
  | false=>
   rw [g9 (fun c=>by rw [hk] at c;exact absurd c.1 (by decide))] at h
   refine Yo (seed:=seed) (i:=i) hK ?_
   rw [th hk]
   simp+contextual only [↓mG,↓XP,qh,XW1,qb]
   exact fun _ _ _=>⟨rfl,fun _=>h,fun c=>absurd c (by decide)⟩
end Go.Proofs.YtgopigkdcmhbbaaGreatDoor
end
noncomputable section
namespace Go.Proofs.YtgopigkdcmhbbaaGreatDoor
open Go.Xs
open Go Go.Aw
noncomputable def UZ:=yy Tryz.f51
def x51_s8:XC:=(.seq (R [A 67 6] (.block 2 (.loop (UZ 30)))) (R [b (.slice 155 (t 3) .none .none .none) 40,n 40 2] (.gh .ret)))
def x51_s9:XC:=(R [A 0 4] (.seq (R [J 0 7] (.block 0 (.loop (UZ 11)))) x51_s8))
def x51:XC:=(R [B 33 0 1,Z 2] (R [a (.alloc 155) 3] x51_s9))
def V51:=PLift.up (aI (aI (aI (@unf (UZ 23) (r [u,u,u,u,u,v,u]) rfl) (@unf (UZ 21) (R [u,u,u,u,u,u,u,u,u,u,u,v,u,u] (UZ 23)) rfl)) (aI (@unf (UZ 17) (X (O (R [v,u] (UZ 21))) (r [u,u])) rfl) (aI (@unf (UZ 11) (R [u] (X I (UZ 17))) rfl) (@unf (UZ 40) (r [u,v,u]) rfl)))) (aI (aI (@unf (UZ 41) (r [u,v,u]) rfl) (@unf (UZ 36) (X (O (R [u,u,v,u,u] (UZ 40))) (UZ 41)) rfl)) (aI (@unf (UZ 30) (X (R [u,u] I) (UZ 36)) rfl) (aI (@unf _ _ x51_s8.eq_1) (@unf _ _ x51_s9.eq_1)))))
theorem xx:type_of% V51.down:=V51.down
theorem b51:Bt 51 41 x51 [(.tmp 2)]:=bt Tryz.func51 rfl
noncomputable def DJ:=yy Tryz.f52
def V52:=PLift.up (aI (@unf (DJ 2) (X (G [u,u,u,u,u,u,u,v,u]) .ret) rfl) (@unf (DJ 0) (R [u,u] (DJ 2)) rfl))
theorem U52:type_of% V52.down:=V52.down
theorem b52:Bt 52 15 (DJ 0) [(.cell 6 33)]:=bt Tryz.func52 rfl
noncomputable def D2:=yy Tryz.f23
def V23:=PLift.up (aI (@unf (D2 2) (F [u,u,u,u,u,u,u,v,u]) rfl) (@unf (D2 0) (R [u,u] (D2 2)) rfl))
theorem U23:type_of% V23.down:=V23.down
theorem b23:Bt 23 15 (D2 0) [(.cell 6 33)]:=bt Tryz.func23 rfl
noncomputable def Y0:=yy Tryz.f69
def V69:=PLift.up (aI (aI (aI (@unf (Y0 37) (r [u,u,u,u,u,u,v,u]) rfl) (@unf (Y0 38) (r [u,v,u]) rfl)) (aI (@unf (Y0 33) (X (O (R [x,u,u,u,u,u,v,u] (Y0 37))) (Y0 38)) rfl) (aI (@unf (Y0 27) (X (R [u,u] I) (Y0 33)) rfl) (@unf (Y0 21) (R [u,u,u,u,u,u,u,u,u,u,v,u] (R [u] (U (Y0 27)))) rfl)))) (aI (aI (@unf (Y0 39) (r [u,v,u]) rfl) (aI (@unf (Y0 17) (X (O (R [u,u,u,v,u] (Y0 21))) (Y0 39)) rfl) (@unf (Y0 11) (X (R [u,u] I) (Y0 17)) rfl))) (aI (@unf (Y0 40) (F [x,u,u,u,u,u,u,u,u,u,u,u,v,u]) rfl) (aI (@unf (Y0 4) (R [u] (X (R [u] (U (Y0 11))) (Y0 40))) rfl) (@unf (Y0 0) (R [u,u] (R [u] (Y0 4))) rfl)))))
theorem nv:type_of% V69.down:=V69.down
theorem b69:Bt 69 59 (Y0 0) [(.tmp 2)]:=bt Tryz.func69 rfl
noncomputable def Jq:=yy Tryz.f27
def x27_s11:XC:=(R [m 0 39,K1 41 39 9 40,n 40 10] (R [a (.call ⟨(.builtin .imag),#[],#[114]⟩) 11] (Jq 27)))
def x27_s12:XC:=(.seq (.block 0 (.seq (Jq 5) (C 17 (R [S 8,A 1 9] .ret) (Jq 10)))) x27_s11)
def x27:XC:=(R [S 8,A 0 9] x27_s12)
def V27r:=PLift.up (aI (@unf (Jq 5) (r [u,u,u,u,z 21,z 21,z 21,v,u]) rfl) trivial)
theorem un:type_of% V27r.down:=V27r.down
def V27:=PLift.up (aI (aI (aI (@unf (Jq 16) (R [u,u,v,u] (T (F [u,u]))) rfl) (aI (@unf (Jq 10) (R [u,u,u,z 29,z 29,z 29,z 29,v,u] (V (F [u,u]) (Jq 16))) rfl) (@unf (Jq 44) (R [u,u,u,u,u,u,u,v,u,u] (r [u,u])) rfl))) (aI (@unf (Jq 40) (X (O (R [v,u,v,u,u] (Jq 44))) (r [u,u])) rfl) (aI (@unf (Jq 34) (R [u] (X I (Jq 40))) rfl) (@unf (Jq 63) (R [u,u,u,u,u,u,v,u,u] (r [u,u])) rfl)))) (aI (aI (@unf (Jq 59) (X (O (R [v,u] (Jq 63))) (r [u,u])) rfl) (aI (@unf (Jq 53) (R [u] (X I (Jq 59))) rfl) (@unf (Jq 67) (F [v,u,u]) rfl))) (aI (aI (@unf (Jq 29) (X (R [u,u,u,u,u,u,u,u,u] (U (Jq 34))) (X (R [u,u] (U (Jq 53))) (Jq 67))) rfl) (@unf (Jq 27) (R [u,u,u] (Jq 29)) rfl)) (aI (@unf _ _ x27_s11.eq_1) (@unf _ _ x27_s12.eq_1)))))
theorem mf:type_of% V27.down:=V27.down
theorem b27:Bt 27 83 x27 [(.tmp 8),(.tmp 9)]:=bt Tryz.func27 rfl
noncomputable def uF:=yy Tryz.f33
def V33:=PLift.up (aI (aI (aI (aI (@unf (uF 48) (r [u,v,u]) rfl) (@unf (uF 45) (X (O (G [u,u,u,u,u,u,u,u,u,u,u,u,u,v,u])) (uF 48)) rfl)) (aI (@unf (uF 39) (X (R [u,u] I) (uF 45)) rfl) (aI (@unf (uF 69) (T (r [u,v,u])) rfl) (@unf (uF 74) (r [u,v,u]) rfl)))) (aI (aI (@unf (uF 72) (R [u,u,u,u,u,u,u,u,u,v,u] (uF 74)) rfl) (@unf (uF 66) (X (R [u,u,u] (uF 69)) (uF 72)) rfl)) (aI (@unf (uF 75) (r [u,v,u]) rfl) (aI (@unf (uF 62) (X (O (R [u,v,u] (uF 66))) (uF 75)) rfl) (@unf (uF 56) (X (R [u,u,u] I) (uF 62)) rfl))))) (aI (aI (aI (@unf (uF 51) (X (R [u] (U (uF 56))) (F [v,u,u])) rfl) (@unf (uF 34) (X (R [u] (U (uF 39))) (R [v,u] (uF 51))) rfl)) (aI (@unf (uF 32) (R [u,u,v,u] (uF 34)) rfl) (aI (@unf (uF 30) (R [u,u,u,u,u,u,u,u,u,v,u] (uF 32)) rfl) (@unf (uF 28) (R [u,u,v,u] (uF 30)) rfl)))) (aI (aI (@unf (uF 20) (X (R [u,u,u] (T (F [u,u]))) (uF 28)) rfl) (@unf (uF 12) (X (R [u,u,u,z 25,z 25,z 25,z 25,u] (T (F [u,u]))) (uF 20)) rfl)) (aI (@unf (uF 4) (X (R [u,u] (T (F [u,u]))) (uF 12)) rfl) (aI (@unf (uF 2) (R [u,u,v,u] (uF 4)) rfl) (@unf (uF 0) (R [u,u] (uF 2)) rfl))))))
theorem aU:type_of% V33.down:=V33.down
theorem b33:Bt 33 94 (uF 0) [(.tmp 8),(.tmp 9)]:=bt Tryz.func33 rfl
end Go.Proofs.YtgopigkdcmhbbaaGreatDoor
end
noncomputable section
namespace Go.Proofs.YtgopigkdcmhbbaaGreatDoor
open Go.Xs
open Go Go.Aw
noncomputable def Qk:=yy Tryz.f12
def x12_s7:XC:=(.seq (.gh (.reg [L 26 3 80,w 26 4 80,A 0 5])) .ret)
def x12_s8:XC:=(.seq (.seq (Qk 48) (.block 0 (.loop (Qk 51)))) x12_s7)
def x12_s9:XC:=(.seq (Qk 45) x12_s8)
def x12_s10:XC:=(.seq (Qk 43) x12_s9)
def x12_s11:XC:=(.seq (R [m 10 47,q .neq 36 47 0 48] (Qk 35)) (R [M 9 51,f 26 3 5 52,w 9 52 51] x12_s10))
def x12_s12:XC:=(.seq (Qk 31) x12_s11)
def x12_s13:XC:=(.seq (.seq (Qk 24) (Qk 25)) x12_s12)
def x12_s14:XC:=(.seq (.seq (Qk 14) (R [m 8 23,q .neq 36 23 0 24] (Qk 17))) x12_s13)
def x12_s15:XC:=(.seq (R [l 26 3 12,K1 22 12 26 13,n 13 6] (R [m 6 14,q .neq 36 14 0 15] (Qk 7))) x12_s14)
def x12:XC:=(.seq (Qk 1) x12_s15)
def V12r:=PLift.up (aI (aI (@unf (Qk 48) (r [u,u,u,u]) rfl) (aI (@unf (Qk 45) (r [u,u,v,u,u]) rfl) (@unf (Qk 43) (r [u,u,v,u,u]) rfl))) (aI (aI (@unf (Qk 31) (G [u,u,u,u,u,u,u,u,u,u,u,v,v,u,u]) rfl) (@unf (Qk 24) (G [u,u,u,u,u,u]) rfl)) (aI (@unf (Qk 14) (r [u,u,u,v,v,u,u,u]) rfl) (@unf (Qk 1) (r [u,u,u,u]) rfl))))
theorem zy:type_of% V12r.down:=V12r.down
def V12:=PLift.up (aI (aI (aI (aI (@unf (Qk 7) (T (F [v,v,u,u])) rfl) (@unf (Qk 17) (T (F [v,v,u,u])) rfl)) (aI (@unf (Qk 25) (T (F [v,u,u])) rfl) (@unf (Qk 35) (T (F [v,v,u,u])) rfl))) (aI (aI (@unf (Qk 61) (G [u,u,u,u,u,u,u,u,u,v,u,u,u]) rfl) (@unf (Qk 57) (X (O (R [v,u] (Qk 61))) (r [u,u])) rfl)) (aI (@unf (Qk 51) (R [u] (X I (Qk 57))) rfl) (@unf _ _ x12_s7.eq_1)))) (aI (aI (aI (@unf _ _ x12_s8.eq_1) (@unf _ _ x12_s9.eq_1)) (aI (@unf _ _ x12_s10.eq_1) (@unf _ _ x12_s11.eq_1))) (aI (aI (@unf _ _ x12_s12.eq_1) (@unf _ _ x12_s13.eq_1)) (aI (@unf _ _ x12_s14.eq_1) (@unf _ _ x12_s15.eq_1)))))
theorem bG:type_of% V12.down:=V12.down
theorem b12:Bt 12 81 x12 [(.cell 4 26),(.tmp 5)]:=bt Tryz.func12 rfl
noncomputable def KX:=yy Tryz.f13
def V13:=PLift.up (aI (aI (aI (@unf (KX 7) (T (F [v,v,u,u])) rfl) (@unf (KX 17) (T (F [v,v,u,u])) rfl)) (aI (@unf (KX 25) (T (F [v,u,u])) rfl) (aI (@unf (KX 35) (T (F [v,v,u,u])) rfl) (@unf (KX 42) (F [v,u,u]) rfl)))) (aI (aI (@unf (KX 32) (X (R [u,u] (KX 35)) (R [v,u,u] (KX 42))) rfl) (aI (@unf (KX 30) (X (G [u,u,u,u,u,u,u,u,u,v,v,u,u]) (KX 32)) rfl) (@unf (KX 22) (X (X (G [u,u,u,u,u]) (KX 25)) (KX 30)) rfl))) (aI (@unf (KX 12) (R [u,u,u,u,v,v,u,u,u] (X (R [u,u] (KX 17)) (KX 22))) rfl) (aI (@unf (KX 2) (R [u,v,u] (X (R [u,u] (KX 7)) (KX 12))) rfl) (@unf (KX 0) (R [u,u,u] (KX 2)) rfl)))))
theorem iR:type_of% V13.down:=V13.down
theorem mC:Bt 13 53 (KX 0) [(.cell 6 26),(.tmp 7)]:=bt Tryz.func13 rfl
def x30v_s0:XC:=(R [c (.buildSlice 24 0 #[]) 5,m 0 6,b (.call ⟨(.builtin .append),#[t 5,t 6],#[24,24,0]⟩) 7,n 7 2] .ret)
def x30v_s1:XC:=(.seq (R [m 0 3,a (.binOp .eql 24 (t 3) (.const (.slice .none 0 0)) 24) 4] (C 4 (R [Z 2] .ret) .skip)) x30v_s0)
def V30v:=PLift.up (aI (@unf _ _ x30v_s0.eq_1) (@unf _ _ x30v_s1.eq_1))
theorem FJ:type_of% V30v.down:=V30v.down
def Bc:XC:=(R [Z 2] x30v_s1)
theorem Ij {args:List D} {H:AH} {R:D->AH->Prop} (h:facts args->xcode Tryz.prog Bc (args++List.replicate (8 - args.length) (.tup [])) H (VT Tryz.prog [(.tmp 2)] R)):ACall Tryz.prog 30 args H R:=
 yN hm Tryz.func30 rfl (by kernel_rfl) (by kernel_rfl) (by kernel_rfl) (by kernel_rfl) (by kernel_rfl) (by kernel_rfl) h
noncomputable def y24:=yy Tryz.f24
theorem b24:Bt 24 90 (y24 0) [(.tmp 8),(.tmp 9)]:=bt Tryz.func24 rfl
end Go.Proofs.YtgopigkdcmhbbaaGreatDoor
end
section
namespace Go.Proofs.YtgopigkdcmhbbaaGreatDoor
open Go Go.Aw
def Jg (d:List UInt8) (i:Nat):Nat:=(d.getD (i / 4) 0).toNat / 4 ^ (3 - i % 4) % 4
def zO (d:List UInt8):Nat->Nat
 |0=>0
 |n+1=>zO d n+(3 - Jg d n)
def Qr (d:List UInt8) (s i:Nat):Nat:=if i<64 then Jg d i else s / 4 ^ (67 - i) % 4
theorem Zx (d:List UInt8) (i:Nat):Jg d i<=3:=Nat.le_of_lt_succ (Nat.mod_lt _ (by decide))
theorem dQ (d:List UInt8) (s i:Nat):Qr d s i<=3:=by
 unfold Qr
 split
 ·exact Zx d i
 ·exact Nat.le_of_lt_succ (Nat.mod_lt _ (by decide))
theorem Wo (d:List UInt8):∀n,zO d n<=3*n
 |0=>Mr _
 |n+1=>by rw [zO];have:=Wo d n;omega
def wJ (f:Nat->Nat):List D:=(List.range 68).map fun k=>.i (f k:Int)
def ua (f:Nat->Nat):List (List D):=(List.range 68).map fun k=>[.i (f k:Int)]
theorem VC (f:Nat->Nat):(wJ f).length=68:=by simp [wJ]
theorem oK (f:Nat->Nat):(ua f).length=68:=by simp [ua]
theorem lI (f:Nat->Nat):(ua f).flatten=wJ f:=by
 unfold ua wJ
 induction (List.range 68) with
 |nil=>rfl
 |cons x l ih=>simp only [List.map_cons,List.flatten_cons,ih];rfl
theorem Uj (h1:g i=n) (h2:∀k,k<68->k≠i->g k=f k):(wJ f).set i (.i (n:Int))=wJ g:=by
 unfold wJ
 apply List.ext_getElem?
 intro j
 rw [List.getElem?_set]
 simp only [List.length_map,List.length_range,Me]
 by_cases hj:j<68
 ·rw [List.getElem?_range hj]
  by_cases e:i=j
  ·subst e;simp [hj,h1]
  ·simp [e,h2 j hj (fun q=>e q.symm)]
 ·rw [Mu (by simpa using hj)]
  split<;>simp_all
theorem arrD_get? (h:i<68):(wJ f)[i]?=some (.i (f i:Int)):=by
 simp [wJ,h]
theorem VG (h:i<68):(ua f).getD i []= [.i (f i:Int)]:=by
 simp [ua,List.getD,h]
theorem Vo (h:∀k,k<68->f k=g k):wJ f=wJ g:=by
 unfold wJ
 exact Mz fun k hk=>by rw [h k (List.mem_range.1 hk)]
theorem BP:∀y∈ua f,y.length=1:=fun y hy=>by
 obtain ⟨k,_,rfl⟩:=List.mem_map.1 hy
 rfl
def cd (d:List UInt8) (i k:Nat):Nat:=if k<i then Jg d k else 0
def dH (d:List UInt8) (s i k:Nat):Nat:=if k<64 then Jg d k else if i<k then s / 4 ^ (67 - k) % 4 else 0
theorem fh (d:List UInt8):(wJ (cd d i)).set i (.i (Jg d i:Int))=wJ (cd d (i+1)):=
 Uj (by simp [cd]) fun k _ hk=>by
  unfold cd
  by_cases h:k<i
  ·rw [if_pos h,if_pos (by omega)]
  ·rw [if_neg h,if_neg (by omega)]
theorem Hq (d:List UInt8) (s:Nat):wJ (cd d 64)=wJ (dH d s 67):=Vo fun k hk=>by
 unfold cd dH
 by_cases h:k<64
 ·rw [if_pos h,if_pos h]
 ·rw [if_neg h,if_neg h,if_neg (by omega)]
theorem cN (d:List UInt8) (s:Nat) (h:64<=i+1):(wJ (dH d s (i+1))).set (i+1) (.i ((s / 4 ^ (67 - (i+1)) % 4:Nat):Int))=wJ (dH d s i):=
 Uj (by unfold dH;rw [if_neg (by omega),if_pos (by omega)]) fun k _ hk=>by
  unfold dH
  by_cases h:k<64
  ·rw [if_pos h,if_pos h]
  ·rw [if_neg h,if_neg h]
   by_cases h2:i+1<k
   ·rw [if_pos h2,if_pos (by omega)]
   ·rw [if_neg h2,if_neg (by omega)]
theorem fZ (d:List UInt8) (s:Nat):wJ (dH d s 63)=wJ (Qr d s):=Vo fun k hk=>by
 unfold dH Qr
 by_cases h:k<64
 ·rw [if_pos h,if_pos h]
 ·rw [if_neg h,if_neg h,if_pos (by omega)]
theorem cq (x:UInt8) {i m:Nat} (hm:m=i % 4):(x.toNat:Int).fdiv (2 ^ min (6 - 2*(m:Int)).toNat 8)=((x.toNat / 4 ^ (3 - i % 4):Nat):Int):=by
 have h:m=0∨m=1∨m=2∨m=3:=by omega
 rw [<-hm]
 clear hm
 rcases h with rfl|rfl|rfl|rfl
 all_goals simp [Int.fdiv_eq_ediv_of_nonneg]
theorem Fz.hso0 (hF:F.getD s .any= .hso b 0 n):Fz F H (F.set s (.hsl b n)) H:=by
 intro K w t hs
 have hlt:s<F.length:=by
  rcases Ms s F.length with h'|h'
  ·exact h'
  ·simp [List.getD,Mu h'] at hF
 have hFs:F[s]?=some (.hso b 0 n):=by rw [<-hF];simp [List.getD,Mb hlt]
 refine ⟨K,.refl K w,hs.krel,hs.hrel,by simpa using hs.len,fun i d v hd hv'=>?_⟩
 rcases getElem?_set_some hd with ⟨rfl,rfl,_⟩|⟨hne,hd⟩
 ·obtain ⟨cap,rfl,h0,h1,h2,h3⟩:=RepV.hso_inv (show RepV K w (.hso b 0 n) v from hs.slot s _ v hFs hv')
  exact RepV.viewO (.hsl b n cap h1 h2 h3)
 ·exact hs.slot i d v hd hv'
theorem Fz.rowA (hF:F.getD s .any= .hso b 0 68) (hg:qn H b=some (.cells (wJ f))):Fz F H (F.set s (.slc (ua f))) (qN H b):=by
 have hlt:s<F.length:=by
  rcases Ms s F.length with h'|h'
  ·exact h'
  ·simp [List.getD,Mu h'] at hF
 have h:=Fz.freeze (F:=F.set s (.hsl b 68)) (H:=H) (s:=s) (b:=b) (n:=68) (sz:=1) (cs:=wJ f) (xs:=ua f) (rest:= []) (by simp [List.getD,hlt]) hg (by rw [lI,Mw]) (oK f) BP (by omega) (fun x hx d hd=>by
  obtain ⟨k,_,rfl⟩:=List.mem_map.1 hx
  rw [List.mem_singleton.1 hd]
  rfl)
 rw [List.set_set] at h
 exact (Fz.hso0 hF).trans h
theorem dk {R:D->AH->Prop} (hd:d.length=16) (h:R (.slc (ua (Qr d (zO d 64)))) H):ACall Tryz.prog 51 [.agg (jp d)] H R:=by
 refine b51 fun hf=>?_
 have hbig:=qj
 simp+contextual only [x51,↓xx,↓XP,qh,XW1,qa]
 intro b1 h1 b3 h3
 obtain ⟨n31,f3⟩:=h3
 obtain ⟨t,ht⟩:∃t:Nat,t=64:=⟨_,rfl⟩
 have hh:R (.slc (ua (Qr d (zO d t)))) H:=by rw [ht];exact h
 clear h
 refine XW.loopS hmm 41 (fun i:Nat=>[(1,.ptr b1 0),(3,.ptr b3 0),(4,.i (zO d i:Int)),(7,.i (i:Int))]) (fun i=>(b3,.cells (wJ (cd d i)))::(b1,.cells (jp d))::H) (fun i=>t - i) (fun i=>i<=t) 0 (Nat.zero_le _) ⟨rfl,rfl,rfl,rfl,rfl,trivial⟩ rfl ?_
 intro i z hi K hN hE hR
 dsimp only [fl,zz,qa,qb]
 have hsl:=Wo d i
 have hss:zO d (i+1)=zO d i+(3 - Jg d i):=rfl
 have hh2:i=t->R (.slc (ua (Qr d (zO d i)))) H:=fun e=>by rw [e];exact hh
 by_cases hlt:i<t
 ·have hlt':((i:Int)<64)=True:=eq_true (by omega)
  have g:=QF (l:=d) (i:=i / 4) (by omega)
  have hq:(i:Int).tdiv 4=((i / 4:Nat):Int):=by rw [Int.tdiv_eq_ediv_of_nonneg (by omega)];omega
  have hr:(i:Int).tmod 4=((i % 4:Nat):Int):=by rw [Int.tmod_eq_emod_of_nonneg (by omega)];omega
  have hw1:IntKind.i64.wrap ((i / 4:Nat):Int)=((i / 4:Nat):Int):=qm (by omega) (by omega)
  have hw2:IntKind.i64.wrap ((i % 4:Nat):Int)=((i % 4:Nat):Int):=qm (by omega) (by omega)
  have hw3:IntKind.i64.wrap (2*((i % 4:Nat):Int))=2*((i % 4:Nat):Int):=qm (by omega) (by omega)
  have hw4:IntKind.i64.wrap (6 - 2*((i % 4:Nat):Int))=6 - 2*((i % 4:Nat):Int):=qm (by omega) (by omega)
  have hi4:((i / 4:Nat):Int)<16:=by omega
  have h04:(0:Int)<=((i / 4:Nat):Int):=by omega
  have hx:((d.getD (i / 4) 0).toNat:Int).fdiv (2 ^ min (6 - 2*((i % 4:Nat):Int)).toNat IntKind.u8.bits)=(((d.getD (i / 4) 0).toNat / 4 ^ (3 - i % 4):Nat):Int):=cq _ rfl
  have hv:(d.getD (i / 4) 0).toNat / 4 ^ (3 - i % 4)<=255:=Mq (Nat.div_le_self _ _) (Nat.le_of_lt_succ (d.getD (i / 4) 0).toNat_lt)
  have hp:Jg d i=(d.getD (i / 4) 0).toNat / 4 ^ (3 - i % 4) % 4:=rfl
  have hp3:=Zx d i
  have hst:=fh d (i:=i)
  have hgt:=arrD_get? (f:=cd d (i+1)) (i:=i) (by omega)
  rw [show cd d (i+1) i=Jg d i by simp [cd]] at hgt
  have hal:=VC (cd d i)
  have h68:((i:Int)<68)=True:=eq_true (by omega)
  have h68':(i<68)=True:=eq_true (by omega)
  have h6:(0<=6 - 2*((i % 4:Nat):Int))=True:=eq_true (by omega)
  generalize (d.getD (i / 4) 0).toNat / 4 ^ (3 - i % 4)=v at hx hv hp
  have hw5:IntKind.i64.wrap (v:Int)=(v:Int):=qm (by omega) (by omega)
  have hm:(v:Int).tmod 4=(Jg d i:Int):=by rw [Int.tmod_eq_emod_of_nonneg (by omega)];omega
  clear hp
  generalize Jg d i=p at hst hgt hp3 hss hm
  have hw6:IntKind.i64.wrap (3 - (p:Int))=3 - (p:Int):=qm (by omega) (by omega)
  have hw7:IntKind.i64.wrap ((zO d i:Int)+(3 - (p:Int)))=(zO d (i+1):Int):=by rw [qm (by omega) (by omega)];omega
  have hw8:IntKind.i64.wrap (p:Int)=(p:Int):=qm (by omega) (by omega)
  simp+contextual only [Nat.mul_one,Mg,qg,n31,hlt',hq,hr,hw1,hw3,hw4,eq_true hi4,eq_true h04,Mh,g,bD,hx,hw5,hm,hst,hgt,hal,h68,h68',h6,hw6,hw7,↓xx,↓XP,qh,XW1]
  rw [qi (by omega)]
  exact ⟨by decide,fun _=>⟨by decide,by decide,fun _=>hN (i+1) _ _ (by omega) (by omega) ⟨rfl,rfl,rfl,rfl,rfl,trivial⟩ (qz rfl)⟩⟩
 ·have hi2:i=t:=by omega
  have hlt':((i:Int)<64)=False:=eq_false (by omega)
  have h:=hh2 hi2
  have hd12:wJ (cd d i)=wJ (dH d (zO d i) 67):=by rw [hi2,ht];exact Hq d _
  simp+contextual only [hlt',↓xx,↓XP,qo]
  apply hE
  rw [hd12]
  have hsl2:zO d i<=192:=by omega
  generalize zO d i=s at hsl2 h
  clear hE hN hR hss hsl hd12 hlt' hi2 hi hh hh2 hlt
  simp+contextual only [↓xx,↓XP,qo,XW1]
  refine XW.loopS hmm 41 (fun j:Nat=>[(1,.ptr b1 0),(3,.ptr b3 0),(4,.i ((s / 4 ^ j:Nat):Int)),(6,.i ((67:Int) - (j:Int)))]) (fun j=>(b3,.cells (wJ (dH d s (67 - j))))::(b1,.cells (jp d))::H) (fun j=>4 - j) (fun j=>j<=4) 0 (Nat.zero_le _) ?_ rfl ?_
  ·rw [show s / 4 ^ 0=s by simp,show (67:Int) - ((0:Nat):Int)=67 by omega]
   exact ⟨rfl,rfl,rfl,rfl,rfl,trivial⟩
  intro j z hj K hN hE hR
  dsimp only [fl,zz,qa,qb]
  by_cases hlt:j<4
  ·have hlt':((64:Int)<=67 - (j:Int))=True:=eq_true (by omega)
   have hst:=cN d s (i:=66 - j) (by omega)
   rw [show 66 - j+1=67 - j by omega,show 67 - (67 - j)=j by omega,show 66 - j=67 - (j+1) by omega] at hst
   have hal:=VC (dH d s (67 - j))
   have htn:(67 - (j:Int)).toNat=67 - j:=by omega
   have hv:s / 4 ^ j<=192:=Mq (Nat.div_le_self _ _) hsl2
   have hvs:s / 4 ^ (j+1)=s / 4 ^ j / 4:=by rw [Nat.pow_succ,Nat.div_div_eq_div_mul]
   generalize s / 4 ^ j=v at hst hv hvs
   have hm:(v:Int).tmod 4=((v % 4:Nat):Int):=by rw [Int.tmod_eq_emod_of_nonneg (by omega)];omega
   have hq:(v:Int).tdiv 4=((s / 4 ^ (j+1):Nat):Int):=by rw [Int.tdiv_eq_ediv_of_nonneg (by omega),hvs];omega
   have hq2:IntKind.i64.wrap ((s / 4 ^ (j+1):Nat):Int)=((s / 4 ^ (j+1):Nat):Int):=qm (by omega) (by omega)
   have hw:IntKind.i64.wrap (67 - (j:Int) - 1)=67 - ((j+1:Nat):Int):=by rw [qm (by omega) (by omega)];omega
   simp+contextual only [Nat.mul_one,Mg,hlt',htn,hm,hq,hq2,hw,hst,hal,↓xx,↓XP,qh,XW1]
   exact ⟨by decide,by omega,by omega,by omega,by decide,hN (j+1) _ _ (by omega) (by omega) ⟨rfl,rfl,rfl,rfl,rfl,trivial⟩ (qz rfl)⟩
  ·have hlt':((64:Int)<=67 - (j:Int))=False:=eq_false (by omega)
   simp+contextual only [hlt',↓xx,↓XP,qo]
   have hj4:j=4:=by omega
   apply hE
   rw [hj4,show 67 - 4=63 from rfl,fZ]
   simp+contextual only [Nat.mul_one,Nat.sub_zero,Mg,↓Jt,qh,XW1,qe,↓XH]
   refine kM (Fz.rowA (s:=2) (b:=b3) (f:=Qr d s) rfl jf) ?_
   simp+contextual only [vW,↓XP,qo]
   exact h
def Yd (d:List UInt8) (n:Nat):List (List D):=(List.range n).map fun k=>[.i (Jg d k:Int)]
theorem bz (d:List UInt8) (n:Nat):Yd d n++ [[.i (Jg d n:Int)]]=Yd d (n+1):=by simp [Yd,List.range_succ]
theorem VR (d:List UInt8) (n:Nat):(Yd d n).length=n:=by simp [Yd]
theorem dw:∀y∈Yd d n,y.length=1:=fun y hy=>by
 obtain ⟨k,_,rfl⟩:=List.mem_map.1 hy
 rfl
theorem cy (hs:s<=192):Yd d 64++ [[.i ((s / 64:Nat):Int)],[.i ((s / 16 % 4:Nat):Int)],[.i ((s / 4 % 4:Nat):Int)],[.i ((s % 4:Nat):Int)]]=ua (Qr d s):=by
 have h1:ua (Qr d s)=(List.range 64).map (fun k=>[D.i (Qr d s k:Int)])++ [64,65,66,67].map (fun k=>[D.i (Qr d s k:Int)]):=by
  unfold ua
  rw [<-Mo]
  rfl
 have h2:(List.range 64).map (fun k=>[D.i (Qr d s k:Int)])=Yd d 64:=Mz fun k hk=>by rw [Qr,if_pos (List.mem_range.1 hk)]
 have e:s / 64 % 4=s / 64:=Nat.mod_eq_of_lt (by omega)
 rw [h1,h2]
 simp [Qr,e]
def W5 (d:List UInt8) (i:Nat):List (List D):=(List.range 4).map fun k=>[.i (Jg d (4*i+k):Int)]
theorem eN (d:List UInt8) (i:Nat):W5 d i= [[.i (((d.getD i 0).toNat / 64:Nat):Int)],[.i (((d.getD i 0).toNat / 16 % 4:Nat):Int)],[.i (((d.getD i 0).toNat / 4 % 4:Nat):Int)],[.i (((d.getD i 0).toNat % 4:Nat):Int)]]:=by
 have e0:Jg d (4*i+0)=(d.getD i 0).toNat / 64:=by
  have hv:=(d.getD i 0).toNat_lt
  rw [Jg,show (4*i+0) / 4=i by omega,show (4*i+0) % 4=0 by omega]
  exact Nat.mod_eq_of_lt (by omega)
 have e1:Jg d (4*i+1)=(d.getD i 0).toNat / 16 % 4:=by rw [Jg,show (4*i+1) / 4=i by omega,show (4*i+1) % 4=1 by omega]
 have e2:Jg d (4*i+2)=(d.getD i 0).toNat / 4 % 4:=by rw [Jg,show (4*i+2) / 4=i by omega,show (4*i+2) % 4=2 by omega]
 have e3:Jg d (4*i+3)=(d.getD i 0).toNat % 4:=by rw [Jg,show (4*i+3) / 4=i by omega,show (4*i+3) % 4=3 by omega,Nat.sub_self,Nat.pow_zero,Nat.div_one]
 rw [<-e0,<-e1,<-e2,<-e3]
 rfl
theorem aZ (d:List UInt8) (h:k<4):(W5 d i).getD k []= [.i (Jg d (4*i+k):Int)]:=by
 simp [W5,List.getD,h]
theorem GX (d:List UInt8) (i:Nat):(W5 d i).length=4:=rfl
theorem aC {R:D->AH->Prop} (hd:d.length=16) (h:R (.own (ua (Qr d (zO d 64)))) H):ACall Tryz.prog 69 [.agg (jp d)] H R:=by
 refine b69 fun hf=>?_
 have hbig:=qj
 simp+contextual only [↓nv,↓nv,↓XP,qo,qa]
 intro b1 h1
 obtain ⟨t,ht⟩:∃t:Nat,t=16:=⟨_,rfl⟩
 have hh:R (.own (ua (Qr d (zO d (4*t))))) H:=by rw [ht];exact h
 clear h
 refine XW.loopS hmm 59 (fun i:Nat=>[(1,.ptr b1 0),(3,.own (Yd d (4*i))),(4,.i (zO d (4*i):Int)),(5,.i (i:Int))]) (fun _=>(b1,.cells (jp d))::H) (fun i=>t - i) (fun i=>i<=t) 0 (Nat.zero_le _) ⟨rfl,rfl,rfl,rfl,rfl,trivial⟩ rfl ?_
 intro i z hi K hN hE hR
 dsimp only [fl,zz,qa,qb]
 have hh2:i=t->R (.own (ua (Qr d (zO d (4*i))))) H:=fun e=>by rw [e];exact hh
 have hsl:=Wo d (4*i)
 by_cases hlt:i<t
 ·have hlt':((i:Int)<16)=True:=eq_true (by omega)
  have hlt2:(i<16)=True:=eq_true (by omega)
  have hi0:((0:Int)<=(i:Int))=True:=eq_true (by omega)
  have g:=QF (l:=d) (i:=i) (by omega)
  have hv:(d.getD i 0).toNat<=255:=Nat.le_of_lt_succ (d.getD i 0).toNat_lt
  have h4:W5 d i= [[.i (((d.getD i 0).toNat / 64:Nat):Int)],[.i (((d.getD i 0).toNat / 16 % 4:Nat):Int)],[.i (((d.getD i 0).toNat / 4 % 4:Nat):Int)],[.i (((d.getD i 0).toNat % 4:Nat):Int)]]:=eN d i
  simp only [bD] at g
  generalize (d.getD i 0).toNat=v at g hv h4
  have w1:IntKind.i64.wrap (v:Int)=(v:Int):=qm (by omega) (by omega)
  have q1:(v:Int).tdiv 64=((v / 64:Nat):Int):=by rw [Int.tdiv_eq_ediv_of_nonneg (by omega)];omega
  have q2:(v:Int).tdiv 16=((v / 16:Nat):Int):=by rw [Int.tdiv_eq_ediv_of_nonneg (by omega)];omega
  have q3:(v:Int).tdiv 4=((v / 4:Nat):Int):=by rw [Int.tdiv_eq_ediv_of_nonneg (by omega)];omega
  have r2:((v / 16:Nat):Int).tmod 4=((v / 16 % 4:Nat):Int):=by rw [Int.tmod_eq_emod_of_nonneg (by omega)];omega
  have r3:((v / 4:Nat):Int).tmod 4=((v / 4 % 4:Nat):Int):=by rw [Int.tmod_eq_emod_of_nonneg (by omega)];omega
  have r4:(v:Int).tmod 4=((v % 4:Nat):Int):=by rw [Int.tmod_eq_emod_of_nonneg (by omega)];omega
  have w2:IntKind.i64.wrap ((v / 64:Nat):Int)=((v / 64:Nat):Int):=qm (by omega) (by omega)
  have w3:IntKind.i64.wrap ((v / 16:Nat):Int)=((v / 16:Nat):Int):=qm (by omega) (by omega)
  have w4:IntKind.i64.wrap ((v / 4:Nat):Int)=((v / 4:Nat):Int):=qm (by omega) (by omega)
  simp+contextual only [Nat.mul_one,Mg,hlt',hi0,g,Mh,w1,q1,q2,q3,r2,r3,r4,w2,w3,w4,<-h4,↓nv,↓XP,qh,XW1,qe]
  refine fun _=>⟨by decide,by decide,by decide,by decide,by decide,by decide,?_⟩
  refine XW.loopS hmm 59 (fun k:Nat=>[(1,.ptr b1 0),(3,.own (Yd d (4*i+k))),(4,.i (zO d (4*i+k):Int)),(5,.i (i:Int)),(7,.own (W5 d i)),(8,.i (k:Int))]) (fun _=>(b1,.cells (jp d))::H) (fun k=>4 - k) (fun k=>k<=4) 0 (Nat.zero_le _) ⟨rfl,rfl,rfl,rfl,rfl,rfl,rfl,trivial⟩ rfl ?_
  intro k z hk K hN' hE' hR'
  dsimp only [fl,zz,qa,qb]
  by_cases hlt2:k<4
  ·have hlk:((k:Int)<4)=True:=eq_true (by omega)
   have hlk0:((0:Int)<=(k:Int))=True:=eq_true (by omega)
   have hlk1:(k<4)=True:=eq_true (by omega)
   have gk:=aZ d (i:=i) hlt2
   have hfl:=GX d i
   have hst:=bz d (4*i+k)
   have hp3:=Zx d (4*i+k)
   have hss:zO d (4*i+(k+1))=zO d (4*i+k)+(3 - Jg d (4*i+k)):=rfl
   have hs4:=Wo d (4*i+k)
   rw [show 4*i+k+1=4*i+(k+1) by omega] at hst
   generalize Jg d (4*i+k)=p at gk hst hp3 hss
   have hw6:IntKind.i64.wrap ((zO d (4*i+k):Int)+3)=(zO d (4*i+k):Int)+3:=qm (by omega) (by omega)
   have hw7:IntKind.i64.wrap ((zO d (4*i+k):Int)+3 - (p:Int))=(zO d (4*i+(k+1)):Int):=by rw [qm (by omega) (by omega)];omega
   simp+contextual only [VR,Nat.mul_one,Mg,hlk,hlk0,gk,hfl,hst,hw6,hw7,Mh,↓nv,↓XP,qh,XW1,qe]
   rw [qi (by omega)]
   exact fun _=>⟨dw,by omega,hN' (k+1) _ _ (by omega) (by omega) ⟨rfl,rfl,rfl,rfl,rfl,rfl,rfl,trivial⟩ (qz rfl)⟩
  ·have hk4:k=4:=by omega
   have hlk:((k:Int)<4)=False:=eq_false (by omega)
   simp+contextual only [hlk,↓nv,↓XP,qo]
   apply hE'
   rw [hk4,show 4*i+4=4*(i+1) by omega]
   simp+contextual only [Mg,↓nv,↓XP,qo,XW1,qf]
   rw [qi (by omega)]
   exact hN (i+1) _ _ (by omega) (by omega) ⟨rfl,rfl,rfl,rfl,rfl,trivial⟩ (qz rfl)
 ·have hi2:i=t:=by omega
  have hlt':((i:Int)<16)=False:=eq_false (by omega)
  have h:=hh2 hi2
  have h64:4*i=64:=by omega
  rw [h64] at h hsl
  simp+contextual only [hlt',↓nv,↓XP,qo]
  apply hE
  rw [h64]
  have hre:=cy (d:=d) (s:=zO d 64) (by omega)
  generalize zO d 64=s at h hsl hre
  have q1:(s:Int).tdiv 64=((s / 64:Nat):Int):=by rw [Int.tdiv_eq_ediv_of_nonneg (by omega)];omega
  have q2:(s:Int).tdiv 16=((s / 16:Nat):Int):=by rw [Int.tdiv_eq_ediv_of_nonneg (by omega)];omega
  have q3:(s:Int).tdiv 4=((s / 4:Nat):Int):=by rw [Int.tdiv_eq_ediv_of_nonneg (by omega)];omega
  have r2:((s / 16:Nat):Int).tmod 4=((s / 16 % 4:Nat):Int):=by rw [Int.tmod_eq_emod_of_nonneg (by omega)];omega
  have r3:((s / 4:Nat):Int).tmod 4=((s / 4 % 4:Nat):Int):=by rw [Int.tmod_eq_emod_of_nonneg (by omega)];omega
  have r4:(s:Int).tmod 4=((s % 4:Nat):Int):=by rw [Int.tmod_eq_emod_of_nonneg (by omega)];omega
  have w2:IntKind.i64.wrap ((s / 64:Nat):Int)=((s / 64:Nat):Int):=qm (by omega) (by omega)
  have w3:IntKind.i64.wrap ((s / 16:Nat):Int)=((s / 16:Nat):Int):=qm (by omega) (by omega)
  have w4:IntKind.i64.wrap ((s / 4:Nat):Int)=((s / 4:Nat):Int):=qm (by omega) (by omega)
  simp+contextual only [VR,Nat.mul_one,q1,q2,q3,r2,r3,r4,w2,w3,w4,hre,↓nv,↓XP,qh,XW1,qb,qc,qe]
  exact ⟨by decide,by decide,by decide,by decide,by decide,by decide,dw,h⟩
def J9 (pub:List UInt8) (i:Int) (m:List UInt8):List UInt8:=kz 3 [pub,qr i,m]
theorem Uq (pub:List UInt8) (i:Int) (m:List UInt8):(J9 pub i m).length=16:=jW _ _
theorem d9 (hi:wX .i64 i) (hp:pub.length=16) (hm:m.length<=100000):∀x∈ [pub,qr i,m],x.length<=100000000:=fun x hx=>by
 simp only [Mt,M0,or_false] at hx
 have:=yc hi
 rcases hx with rfl|rfl|rfl<;>omega
theorem Ct {R:D->AH->Prop} (hg:Kst H) (hp:pub.length=16) (hm:m.length<=100000) (h:R (.agg (jp (J9 pub i m))) H):ACall Tryz.prog 52 [.agg (jp pub),.i i,.str m] H R:=by
 refine b52 fun hf=>?_
 have hbig:=qj
 simp+contextual only [↓U52,Nat.mul_one,Nat.sub_zero,qw,↓U52.1,↓Jt,qh,XW1,qa,qb,qe,↓XH]
 intro b3 h3 b6 h6
 obtain ⟨n63,f6⟩:=h6
 simp+contextual only [qw,hp,qV hp,zV,qo]
 refine ⟨oR _,fun _=>⟨_,fun H1 hs=>zU fun _=>⟨rfl,rfl⟩,?_⟩⟩
 simp+contextual only [Nat.mul_one,unb,↓XP,qh,XW1,qe]
 have hi:wX .i64 i:=hf.2.1
 have hK:Kst ((b6,.cells (barr 16 []))::(b3,.cells (jp pub))::H):=(hg.push h3).push ⟨Ne.symm n63,f6⟩
 refine fun _=>⟨isb _,⟨_,fun H1 hs=>UH (c:=3) (l:= [pub,qr i,m]) (hK.sub hs) (by decide) (by simp) (d9 hi hp hm) ⟨rfl,rfl⟩,?_⟩⟩
 rw [show J9 pub i m=kz 3 [pub,qr i,m] from rfl] at h
 have hl:=jW 3 [pub,qr i,m]
 generalize kz 3 [pub,qr i,m]=s at hl h
 simp+contextual only [qw,hl,qV hl,jj,↓XP,qh,XW1,qb]
 exact h
theorem tO {R:D->AH->Prop} (hg:Kst0 H) (hp:pub.length=16) (hm:m.length<=100000) (h:R (.agg (jp (J9 pub i m))) H):ACall Tryz.prog 23 [.agg (jp pub),.i i,.str m] H R:=by
 refine b23 fun hf=>?_
 have hbig:=qj
 simp+contextual only [↓U23,qw,↓U23.1,↓XP,qh,XW1,qa,qb]
 intro b3 h3 b6 h6
 obtain ⟨n63,f6⟩:=h6
 simp+contextual only [hp,qV hp,jj,qo]
 have hi:wX .i64 i:=hf.2.1
 have hK:Kst0 ((b6,.cells (barr 16 []))::(b3,.cells (jp pub))::H):=(hg.push h3).push ⟨Ne.symm n63,f6⟩
 refine oM hp ?_
 simp+contextual only [hp,↓XP,qo]
 refine fun _=>gd fun _=>?_
 simp+contextual only [Nat.mul_one,unb,↓XP,qh,XW1,qe]
 refine fun _=>⟨isb _,UV (c:=3) (l:= [pub,qr i,m]) hK (by decide) (by simp) (d9 hi hp hm) ?_⟩
 rw [show J9 pub i m=kz 3 [pub,qr i,m] from rfl] at h
 have hl:=jW 3 [pub,qr i,m]
 generalize kz 3 [pub,qr i,m]=s at hl h
 simp+contextual only [qw,hl,qV hl,jj,↓XP,qh,XW1,qb]
 exact h
theorem la (hv:v≠ []) (K:Nat->BK) (w:World) (x:Value) (hh:HRel K w (qN H b)) (hr:RepV K w (.slc (v.map ql)) x):
  Src Tryz.prog w K 1 (v.map ql) x∧∃ad c,x= .slice (some ad) v.length c∧∀j y,v[j]?=some y->w.cell? (ad.add j)=some (.int .u8 y.toNat):=by
 refine ⟨uH hr (Un v) (by omega),?_⟩
 generalize hl:v.map ql=xs at hr
 have hlen:xs.length=v.length:=by rw [<-hl];simp
 cases hr with
 |slcnil a=>exact (hv (by simpa using hl)).elim
 | slc _ b' off cap sz f hb hc hm hs hvis hcell hone hrep=>
  refine ⟨⟨b',off,none⟩,cap,by rw [hlen],fun j y hj=>?_⟩
  have hx:xs[j]?=some [D.int .u8 (y.toNat:Int)]:=by rw [<-hl,Me,hj];rfl
  have hsz:sz=1:=(hs j _ hx).symm
  have h1:=hcell j _ hx 0 _ rfl
  have h2:=hrep j _ hx 0 _ rfl
  obtain ⟨h3,_⟩:=h2.int_inv
  rw [h3] at h1
  rw [hsz,Nat.mul_one,Nat.add_zero] at h1
  by_cases hj0:j=0
  ·subst hj0;simpa [Addr.add] using h1
  ·simpa [Addr.add,hj0] using h1
def QY (seed:List UInt8) (i:Int) (d:List UInt8) (s c:Nat):List UInt8:=wQ i c (kY seed i c) 0 (Qr d s c)
theorem ZZ (seed:List UInt8) (i:Int) (d:List UInt8) (s c:Nat):(QY seed i d s c).length=16:=vG (yL _ _ _) _
def oy (i l:Nat):Nat:=(i / 2 ^ l) ^^^ 1
def ku (seed:List UInt8) (i l:Nat):List UInt8:=jn seed l (oy i l)
theorem YD (seed:List UInt8) (i l:Nat):(ku seed i l).length=16:=jJ _ _ _
def WT (seed:List UInt8) (ht i:Nat) (m:List UInt8):List UInt8:=
 let d:=J9 (jn seed ht 0) i m
 qr i++jF (QY seed i d (zO d 64)) 68++jF (ku seed i) ht
theorem dF (hl:l<ht) (hi:i<2 ^ ht):oy i l<2 ^ (ht - l):=by
 have h1:i / 2 ^ l<2 ^ (ht - l):=by
  rw [Nat.div_lt_iff_lt_mul (Nat.two_pow_pos l),<-Nat.pow_add,show ht - l+l=ht by omega]
  exact hi
 have h2:1<2 ^ (ht - l):=Nat.one_lt_two_pow (by omega)
 exact Nat.xor_lt_two_pow h1 h2
theorem Hi:∀v:Fin 64,bits .xor .i64 ((v.val:Nat):Int) 1=((v.val ^^^ 1:Nat):Int):=by decide
theorem iE {i l ht:Nat} (hh:ht<=6) (hl:l<ht) (hi:i<2 ^ ht) (hp:2 ^ ht<=64):bits .xor .i64 ((i:Int).fdiv (2 ^ min l IntKind.i64.bits)) 1=(oy i l:Int):=by
 have h1:min l IntKind.i64.bits=l:=Nat.min_eq_left (show l<=64 by omega)
 have h2:(i:Int).fdiv (2 ^ l)=((i / 2 ^ l:Nat):Int):=by
  rw [show ((2:Int) ^ l)=((2 ^ l:Nat):Int) by simp,Int.fdiv_eq_ediv_of_nonneg _ (Int.natCast_nonneg _)]
  exact (Int.natCast_ediv _ _).symm
 rw [h1,h2]
 exact Hi ⟨i / 2 ^ l,Nat.lt_of_le_of_lt (Nat.div_le_self _ _) (by omega)⟩
theorem ma {seed m:List UInt8} {ht i:Nat} {H:AH} {R:D->AH->Prop} (hg:Kst H) (hs:seed.length=32) (hh:ht<=6) (hi:i<2 ^ ht) (hm:m.length<=100000)
  (h:R (.tup [.str (WT seed ht i m),.i 0]) H):ACall Tryz.prog 27 [.str seed,.i (ht:Int),.i (i:Int),.str m] H R:=by
 refine b27 fun hf=>?_
 have hbig:=qj
 obtain ⟨hp1,hp2,hp3⟩:=zd hh
 have e1:decide (((seed.length:Nat):Int)=32)=true:=decide_eq_true (by omega)
 simp only [x27,e1,Bool.not_true,↓mf,↓un,↓XP,qh,qa,qb]
 refine fun _=>Vq ?_
 have hk:eM (ht:Int)=true:=by
  unfold eM
  rw [decide_eq_true (by omega),decide_eq_true (by omega)]
  rfl
 have l1:((i:Int)<0)=False:=eq_false (by omega)
 have l2:(((2 ^ ht:Nat):Int)<=(i:Int))=False:=eq_false (by omega)
 have l3:((1048576:Int)<(m.length:Int))=False:=eq_false (by omega)
 have l4:((0:Int)<=(ht:Int))=True:=eq_true (by omega)
 simp+contextual only [hk,hp1,l1,l2,l3,l4,Mh,↓mf,↓un,↓XP,qh,XW1,↓XH]
 intros
 refine Gj fun bs bM bm ba q1 q2 q3 q4=>?_
 have hn0:NodeH ((ba,.cells [Vk bm bs ba])::(bm,.cells [.mp (some bM)])::(bM,.lp (MemJ seed bM) [])::(bs,.cells [.str seed])::H) seed bm bM bs ba:=
  ⟨by rw [qg (Ne.symm q4.1),jf],by rw [qg (Ne.symm q4.2.1),qg (Ne.symm q3.1),jf],by rw [qg (Ne.symm q4.2.2.1),qg (Ne.symm q3.2.1),qg (Ne.symm q2.1),jf],jf⟩
 have hK0:Kst ((ba,.cells [Vk bm bs ba])::(bm,.cells [.mp (some bM)])::(bM,.lp (MemJ seed bM) [])::(bs,.cells [.str seed])::H):=(((hg.push q1).push q2).push q3).push q4
 simp+contextual only [Vk,Vk,↓mf,↓un,↓XP,qo,XW1,↓XI]
 simp only [Vk] at hn0 hK0
 obtain ⟨H0,hH0⟩:∃H0,H0=(ba,AO.cells [.fn 82 [.ptr bm 0,.ptr bs 0,.ptr ba 0]])::(bm,.cells [.mp (some bM)])::(bM,.lp (MemJ seed bM) [])::(bs,.cells [.str seed])::H:=⟨_,rfl⟩
 rw [<-hH0] at hn0 hK0 ⊢
 refine QO (fun b=>BldJ b []) (fun b K w h1 h2=>⟨h1,_,_,h2,.inl rfl,.inl ⟨rfl,none,rfl⟩,.inl ⟨rfl,rfl⟩⟩) (fun b=>BldJ.ok) (by intro w;exact Tryz.zeroValue114 w) ?_
 intro b hb
 simp+contextual only [qo]
 refine zU fun hii=>?_
 have hei:=yc hii
 have hep:qr (i:Int)≠ []:=by simp [qr]
 simp+contextual only [↓un,↓XP,qo]
 intro _
 refine Q9 (l:= []) (m:=qr i) jf hep (by simp;omega) (fun K w x hh hr=>la hep K w x hh hr) ?_
 rw [Mx,wG]
 simp+contextual only [↓mf,↓un,↓XP,qo,XW1]
 have hK1:Kst ((b,.lp (BldJ b (qr i)) [])::H0):=hK0.push hb
 have hn1:NodeH ((b,.lp (BldJ b (qr i)) [])::H0) seed bm bM bs ba:=hn0.push hb
 refine JS (by omega) ht 0 hK1 hn1 (by omega) (by omega) ?_
 rw [show WT seed ht i m=qr i++jF (QY seed i (J9 (jn seed ht 0) i m) (zO (J9 (jn seed ht 0) i m) 64)) 68++jF (ku seed i) ht from rfl] at h
 have nr:=jJ seed ht 0
 generalize jn seed ht 0=root at nr h
 simp+contextual only [↓un,↓XP,qo,XW1]
 refine Ct hK1 nr hm ?_
 have nd:=Uq root i m
 generalize J9 root i m=d at nd h
 simp+contextual only [↓un,↓XP,qo,XW1]
 refine dk nd ?_
 generalize zO d 64=s at h
 simp+contextual only [oK,Mg,↓un,↓XP,qh,XW1]
 intro _
 clear hK1 hn1 e1 l1 l2 l3 l4 hp1
 obtain ⟨t,ht68⟩:∃t:Nat,t=68:=⟨_,rfl⟩
 have h2:R (.tup [.str (qr i++jF (QY seed i d s) t++jF (ku seed i) ht),.i 0]) H:=by rw [ht68];exact h
 clear h
 have hvl:=ZZ seed i d s
 refine XW.loopS hmm 83 (fun n:Nat=>[(0,.str seed),(1,.i (ht:Int)),(2,.i (i:Int)),(3,.str m),(10,Vk bm bs ba),(11,.ptr b 0),(50,.slc (ua (Qr d s))),(51,.i 68),(52,.i (n:Int))]) (fun n=>(b,.lp (BldJ b (qr i++jF (QY seed i d s) n)) [])::H0) (fun n=>t - n) (fun n=>n<=t) 0 (Nat.zero_le _) ⟨rfl,rfl,rfl,rfl,rfl,rfl,rfl,rfl,rfl,rfl,trivial⟩ (by rw [jF,Mw]) ?_
 intro n z hn K hN hE hR
 dsimp only [fl,zz,qa,qb]
 have hst:qr i++jF (QY seed i d s) (n+1)=(qr i++jF (QY seed i d s) n)++QY seed i d s n:=by rw [jF,Mp]
 have hwl:(qr (i:Int)++jF (QY seed i d s) n).length<=9+16*n:=by rw [Mi,ui hvl];omega
 have h3:n=t->R (.tup [.str (qr i++jF (QY seed i d s) n++jF (ku seed i) ht),.i 0]) H:=fun e=>by rw [e];exact h2
 have hwn:qr (i:Int)++jF (QY seed i d s) n≠ []:=by simp [hep]
 generalize qr (i:Int)++jF (QY seed i d s) n=w at hst hwl h3 hwn
 have hK1:Kst ((b,.lp (BldJ b w) [])::H0):=hK0.push hb
 have hn1:NodeH ((b,.lp (BldJ b w) [])::H0) seed bm bM bs ba:=hn0.push hb
 by_cases hlt:n<t
 ·have hlt':((n:Int)<68)=True:=eq_true (by omega)
  have hlt2:(n<68)=True:=eq_true (by omega)
  have hn00:((0:Int)<=(n:Int))=True:=eq_true (by omega)
  have g:=VG (f:=Qr d s) (i:=n) (by omega)
  have hd3:=dQ d s n
  simp+contextual only [Vk,oK,Mg,hlt',hn00,g,Mh,↓mf,↓un,↓XP,qh]
  refine fun _=>GJ hK1 (by omega) ?_
  have ns:=yL seed i n
  have hv1:QY seed i d s n=wQ i n (kY seed i n) 0 (Qr d s n):=rfl
  generalize kY seed i n=u at ns hv1
  simp+contextual only [↓un,↓XP,qo,XW1]
  refine nG (n:=Qr d s n) (by omega) hK1 ns (by omega) (by omega) ?_
  rw [<-hv1]
  have hv2:=hvl n
  generalize QY seed i d s n=v at hv2 hst
  simp+contextual only [qw,Nat.mul_one,Nat.sub_zero,↓un,↓Jt,qh,XW1,qb,qe,↓XH]
  intro tY h14
  obtain ⟨n14,f14⟩:=h14
  have hge:qn (qN ((tY,.cells (jp v))::(b,.lp (BldJ b w) [])::H0) b) tY=some (.cells (jp v)):=by simp [qN,qn,n14]
  refine ⟨hv2,Q9 (l:=w) (m:=v) (by simp [qn,n14]) (by intro e;rw [e] at hv2;simp at hv2) (by omega) (WZ hge hv2) ?_⟩
  rw [qk n14,wG,<-hst]
  simp+contextual only [↓un,↓XP,qo,XW1]
  rw [qi (by omega)]
  exact hN (n+1) _ _ (by omega) (by omega) ⟨rfl,rfl,rfl,rfl,rfl,rfl,rfl,rfl,rfl,rfl,trivial⟩ (kV rfl)
 ·have hi2:n=t:=by omega
  have hlt':((n:Int)<68)=False:=eq_false (by omega)
  have h:=h3 hi2
  simp+contextual only [Vk,hlt',↓mf,↓un,↓XP,qo]
  apply hE
  clear hE hN hR hK1 hn1 hlt' h3 h2 hst hvl
  have hwl2:w.length<=1200:=by omega
  clear hwl hi2 hn hlt ht68
  have hvl:=YD seed i
  simp+contextual only [↓un,↓XP,qo,XW1]
  refine XW.loopS hmm 83 (fun l:Nat=>[(0,.str seed),(1,.i (ht:Int)),(2,.i (i:Int)),(3,.str m),(10,Vk bm bs ba),(11,.ptr b 0),(68,.i (ht:Int)),(69,.i (l:Int))]) (fun l=>(b,.lp (BldJ b (w++jF (ku seed i) l)) [])::H0) (fun l=>ht - l) (fun l=>l<=ht) 0 (Nat.zero_le _) ⟨rfl,rfl,rfl,rfl,rfl,rfl,rfl,rfl,rfl,trivial⟩ (by rw [jF,Mw]) ?_
  intro l z hl K hN hE hR
  dsimp only [fl,zz,qa,qb]
  have hst:w++jF (ku seed i) (l+1)=(w++jF (ku seed i) l)++ku seed i l:=by rw [jF,Mp]
  have hwl:(w++jF (ku seed i) l).length<=1200+16*l:=by rw [Mi,ui hvl];omega
  have h3:l=ht->R (.tup [.str (w++jF (ku seed i) l),.i 0]) H:=fun e=>by rw [e];exact h
  have hwn2:w++jF (ku seed i) l≠ []:=by simp [hwn]
  generalize w++jF (ku seed i) l=x at hst hwl h3 hwn2
  have hK1:Kst ((b,.lp (BldJ b x) [])::H0):=hK0.push hb
  have hn1:NodeH ((b,.lp (BldJ b x) [])::H0) seed bm bM bs ba:=hn0.push hb
  by_cases hlt:l<ht
  ·have hlt':((l:Int)<(ht:Int))=True:=eq_true (by omega)
   have hl0:((0:Int)<=(l:Int))=True:=eq_true (by omega)
   simp+contextual only [Vk,hlt',hl0,Mh,↓mf,↓un,↓XP,qo]
   rw [iE hh hlt hi hp2]
   have hsb:=dF hlt hi
   have hpl:2 ^ l<=2 ^ 6:=Nat.pow_le_pow_right (by omega) (by omega)
   have hp3:2 ^ (ht - l)<=2 ^ 6:=Nat.pow_le_pow_right (by omega) (by omega)
   refine JS (by omega) l (oy i l) hK1 hn1 (Mq (Nat.mul_le_mul (show oy i l+1<=2 ^ 6 by omega) hpl) (by decide)) (by omega) ?_
   rw [show jn seed l (oy i l)=ku seed i l from rfl]
   have hv2:=hvl l
   generalize ku seed i l=v at hv2 hst
   simp+contextual only [qw,Nat.mul_one,Nat.sub_zero,↓un,↓Jt,qh,XW1,qb,qe,↓XH]
   intro tY h14
   obtain ⟨n14,f14⟩:=h14
   have hge:qn (qN ((tY,.cells (jp v))::(b,.lp (BldJ b x) [])::H0) b) tY=some (.cells (jp v)):=by simp [qN,qn,n14]
   refine ⟨hv2,Q9 (l:=x) (m:=v) (by simp [qn,n14]) (by intro e;rw [e] at hv2;simp at hv2) (by omega) (WZ hge hv2) ?_⟩
   rw [qk n14,wG,<-hst]
   simp+contextual only [↓un,↓XP,qo,XW1]
   rw [qi (by omega)]
   exact hN (l+1) _ _ (by omega) (by omega) ⟨rfl,rfl,rfl,rfl,rfl,rfl,rfl,rfl,rfl,trivial⟩ (kV rfl)
  ·have hi2:l=ht:=by omega
   have hlt':((l:Int)<(ht:Int))=False:=eq_false (by omega)
   have h:=h3 hi2
   simp+contextual only [Vk,hlt',↓mf,↓un,↓XP,qo]
   apply hE
   simp+contextual only [↓mf,↓un,↓XP,qo,XW1]
   refine Ym (l:=x) jf hwn2 (by omega) ?_
   rw [vW]
   simp+contextual only [↓un,↓XP,qo]
   intro _
   have hb0:back H.length H0=H:=by rw [hH0];exact WW rfl
   rw [hb0]
   exact h
theorem eY (h:i / 2 ^ l % 2=0):oy i l=i / 2 ^ l+1:=by
 unfold oy
 generalize i / 2 ^ l=v at h
 obtain ⟨k,rfl⟩:∃k,v=2*k:=⟨v / 2,by omega⟩
 apply Nat.eq_of_testBit_eq
 intro j
 rw [Nat.testBit_xor]
 cases j with
 |zero=>simp
 | succ j=>
  rw [Nat.testBit_succ,Nat.testBit_succ,Nat.testBit_succ,show (2*k+1) / 2=k by omega,show 2*k / 2=k by omega,show 1 / 2=0 from rfl]
  simp
theorem lu (h:i / 2 ^ l % 2=1):oy i l=i / 2 ^ l - 1:=by
 unfold oy
 generalize i / 2 ^ l=v at h
 obtain ⟨k,rfl⟩:∃k,v=2*k+1:=⟨v / 2,by omega⟩
 apply Nat.eq_of_testBit_eq
 intro j
 rw [Nat.testBit_xor]
 cases j with
 |zero=>simp
 | succ j=>
  rw [Nat.testBit_succ,Nat.testBit_succ,Nat.testBit_succ,show (2*k+1) / 2=k by omega,show (2*k+1 - 1) / 2=k by omega,show 1 / 2=0 from rfl]
  simp
theorem ib {R:D->AH->Prop} (hg:Kst0 H) (hs:seed.length=32) (hh:ht<=6) (hi:i<2 ^ ht) (hm:m.length<=100000)
  (h:R (.tup [.str (WT seed ht i m),.i 0]) H):ACall Tryz.prog 33 [.str seed,.i (ht:Int),.i (i:Int),.str m] H R:=by
 refine b33 fun hf=>?_
 have hbig:=qj
 obtain ⟨hp1,hp2,hp3⟩:=zd hh
 have hk:wT seed (ht:Int)=true:=by
  unfold wT
  exact decide_eq_true ⟨hs,by omega,by omega⟩
 have l1:((i:Int)<0)=False:=eq_false (by omega)
 have l2:(((2 ^ ht:Nat):Int)<=(i:Int))=False:=eq_false (by omega)
 have l3:((1048576:Int)<(m.length:Int))=False:=eq_false (by omega)
 have l4:((0:Int)<=(ht:Int))=True:=eq_true (by omega)
 simp+contextual only [↓aU,↓aU,↓XP,qo,qa,qb]
 refine Zy ?_
 simp+contextual only [hk,hp1,l1,l2,l3,l4,Mh,↓aU,↓XP,qh,XW1,↓XH]
 intros
 refine U0 hg (by omega) hh ?_
 have gl:=Q7 (seed:=seed) (ht:=ht) (n:=ht+1) (l:=ht) (by omega)
 rw [Nat.sub_self,Nat.pow_zero] at gl
 have gr:=oV (seed:=seed) (l:=ht) (n:=1) (k:=0) (by omega)
 have l5:((ht:Int)<((ht+1:Nat):Int))=True:=eq_true (by omega)
 have l6:(ht<ht+1)=True:=eq_true (by omega)
 have nr:=jJ seed ht 0
 rw [show WT seed ht i m=qr i++jF (QY seed i (J9 (jn seed ht 0) i m) (zO (J9 (jn seed ht 0) i m) 64)) 68++jF (ku seed i) ht from rfl] at h
 generalize jn seed ht 0=root at nr gr h
 simp+contextual only [vH,uC,qw,Int.reduceLT,Mg,l4,l5,gl,gr,nr,qV nr,Mh,↓aU,↓XP,qh]
 refine fun _ _=>tO hg nr hm ?_
 have nd:=Uq root i m
 generalize J9 root i m=d at nd h
 simp+contextual only [↓XP,qo,XW1]
 refine aC nd ?_
 generalize zO d 64=s at h
 simp+contextual only [oK,↓aU,↓XP,qo]
 refine fun _=>gd fun hii=>?_
 have hei:=yc hii
 simp+contextual only [unb,↓aU,↓XP,qh,XW1]
 refine fun _=>⟨isb _,?_⟩
 clear hk l1 l2 l3 l4 hp1 gl gr l5 l6
 obtain ⟨t,ht68⟩:∃t:Nat,t=68:=⟨_,rfl⟩
 have h2:R (.tup [.str (qr i++jF (QY seed i d s) t++jF (ku seed i) ht),.i 0]) H:=by rw [ht68];exact h
 clear h
 have hvl:=ZZ seed i d s
 refine XW.loopS hmm 94 (fun n:Nat=>[(0,.str seed),(1,.i (ht:Int)),(2,.i (i:Int)),(11,.own (gN seed ht (ht+1))),(12,.own (ua (Qr d s))),(13,.str (qr i++jF (QY seed i d s) n)),(14,.i (n:Int))]) (fun n=>H) (fun n=>t - n) (fun n=>n<=t) 0 (Nat.zero_le _) ?_ rfl ?_
 ·rw [show qr (i:Int)++jF (QY seed i d s) 0=qr i by rw [jF,Mw]]
  exact ⟨rfl,rfl,rfl,rfl,rfl,rfl,rfl,rfl,trivial⟩
 intro n z hn K hN hE hR
 have hst:qr i++jF (QY seed i d s) (n+1)=(qr i++jF (QY seed i d s) n)++QY seed i d s n:=by rw [jF,Mp]
 have hwl:(qr (i:Int)++jF (QY seed i d s) n).length<=9+16*n:=by rw [Mi,ui hvl];omega
 have h3:n=t->R (.tup [.str (qr i++jF (QY seed i d s) n++jF (ku seed i) ht),.i 0]) H:=fun e=>by rw [e];exact h2
 dsimp only [fl,zz,qa,qb]
 generalize qr (i:Int)++jF (QY seed i d s) n=w at hst hwl h3 ⊢
 by_cases hlt:n<t
 ·have hlt':((n:Int)<68)=True:=eq_true (by omega)
  have hlt2:(n<68)=True:=eq_true (by omega)
  have hn00:((0:Int)<=(n:Int))=True:=eq_true (by omega)
  have g:=VG (f:=Qr d s) (i:=n) (by omega)
  have hd3:=dQ d s n
  simp+contextual only [oK,Mg,hlt',hn00,g,Mh,↓aU,↓XP,qh]
  refine fun _=>⟨_,fun H1 hs1=>US (hg.sub hs1) (by omega) ⟨rfl,rfl⟩,?_⟩
  have ns:=yL seed i n
  have hv1:QY seed i d s n=wQ i n (kY seed i n) 0 (Qr d s n):=rfl
  generalize kY seed i n=u at ns hv1 ⊢
  simp+contextual only [↓XP,qo,XW1]
  refine ⟨_,fun H1 hs1=>db (n:=Qr d s n) (by omega) (hg.sub hs1) ns (by omega) (by omega) ⟨rfl,rfl⟩,?_⟩
  rw [<-hv1]
  have hv2:=hvl n
  generalize QY seed i d s n=v at hv2 hst ⊢
  simp+contextual only [↓XP,qo,XW1]
  refine ⟨_,fun H1 hs1=>oM hv2 ⟨rfl,rfl⟩,?_⟩
  simp+contextual only [<-hst,↓aU,↓XP,qo]
  rw [qi (by omega)]
  exact fun _=>⟨by omega,hN (n+1) _ _ (by omega) (by omega) ⟨rfl,rfl,rfl,rfl,rfl,rfl,rfl,rfl,trivial⟩ (qz rfl)⟩
 ·have hi2:n=t:=by omega
  have hlt':((n:Int)<68)=False:=eq_false (by omega)
  have h:=h3 hi2
  simp+contextual only [hlt',↓aU,↓XP,qo]
  apply hE
  clear hE hN hR hlt' h3 h2 hst hvl
  have hwl2:w.length<=1200:=by omega
  clear hwl hi2 hn hlt ht68
  have hvl:=YD seed i
  simp+contextual only [↓aU,↓XP,qo,XW1]
  refine XW.loopS hmm 94 (fun l:Nat=>[(0,.str seed),(1,.i (ht:Int)),(2,.i (i:Int)),(11,.own (gN seed ht (ht+1))),(13,.str (w++jF (ku seed i) l)),(15,.i ((i / 2 ^ l:Nat):Int)),(16,.i (l:Int))]) (fun l=>H) (fun l=>ht - l) (fun l=>l<=ht) 0 (Nat.zero_le _) ?_ rfl ?_
  ·rw [show w++jF (ku seed i) 0=w by rw [jF,Mw],show i / 2 ^ 0=i by simp]
   exact ⟨rfl,rfl,rfl,rfl,rfl,rfl,rfl,rfl,trivial⟩
  intro l z hl K hN hE hR
  have hst:w++jF (ku seed i) (l+1)=(w++jF (ku seed i) l)++ku seed i l:=by rw [jF,Mp]
  have hwl:(w++jF (ku seed i) l).length<=1200+16*l:=by rw [Mi,ui hvl];omega
  have h3:l=ht->R (.tup [.str (w++jF (ku seed i) l),.i 0]) H:=fun e=>by rw [e];exact h
  dsimp only [fl,zz,qa,qb]
  generalize w++jF (ku seed i) l=x at hst hwl h3 ⊢
  by_cases hlt:l<ht
  ·have hlt':((l:Int)<(ht:Int))=True:=eq_true (by omega)
   have hl0:((0:Int)<=(l:Int))=True:=eq_true (by omega)
   have hsb:=dF hlt hi
   have hse:=eY (i:=i) (l:=l)
   have hso:=lu (i:=i) (l:=l)
   have hdv:i / 2 ^ (l+1)=i / 2 ^ l / 2:=by rw [Nat.pow_succ,Nat.div_div_eq_div_mul]
   have hdl:i / 2 ^ l<=i:=Nat.div_le_self _ _
   have gl:=Q7 (seed:=seed) (ht:=ht) (n:=ht+1) (l:=l) (by omega)
   have hpp:2 ^ (ht - l)<=2 ^ 6:=Nat.pow_le_pow_right (by omega) (by omega)
   have gr:=oV (seed:=seed) (l:=l) (n:=2 ^ (ht - l)) (k:=oy i l) hsb
   rw [show jn seed l (oy i l)=ku seed i l from rfl] at gr
   generalize 2 ^ (ht - l)=q at gl gr hsb hpp
   have l5:((l:Int)<((ht+1:Nat):Int))=True:=eq_true (by omega)
   have l6:(l<ht+1)=True:=eq_true (by omega)
   have hv2:=hvl l
   generalize ku seed i l=v at gr hst hv2
   generalize i / 2 ^ l=y at hse hso hdv hdl ⊢
   have hmd:(y:Int).tmod 2=((y % 2:Nat):Int):=by rw [Int.tmod_eq_emod_of_nonneg (by omega)];omega
   have hdq:(y:Int).tdiv 2=((i / 2 ^ (l+1):Nat):Int):=by rw [Int.tdiv_eq_ediv_of_nonneg (by omega),hdv];omega
   have hdw:IntKind.i64.wrap ((i / 2 ^ (l+1):Nat):Int)=((i / 2 ^ (l+1):Nat):Int):=qm (by omega) (by omega)
   generalize he2:i / 2 ^ (l+1)=y2 at hdq hdw hdv ⊢
   have hs1:(((oy i l:Nat):Int)<(q:Int))=True:=eq_true (by omega)
   have hs0:((0:Int)<=((oy i l:Nat):Int))=True:=eq_true (by omega)
   have hs2:(oy i l<q)=True:=eq_true hsb
   rcases Nat.mod_two_eq_zero_or_one y with hy|hy
   case' inl=>
    have hsx:IntKind.i64.wrap ((y:Int)+1)=((oy i l:Nat):Int):=by rw [qi (by omega),hse hy]
    have hy2:(((y % 2:Nat):Int)=1)=False:=eq_false (by omega)
   case' inr=>
    have hsx:IntKind.i64.wrap ((y:Int) - 1)=((oy i l:Nat):Int):=by rw [qm (by omega) (by omega),hso hy];omega
    have hy2:(((y % 2:Nat):Int)=1)=True:=eq_true (by omega)
   all_goals simp+contextual only [vH,uC,qw,hlt',hl0,Mh,l5,gl,gr,hmd,hy2,hsx,hs1,hs0,hv2,qV hv2,↓aU,↓XP,qh,XW1]
   all_goals refine ⟨by decide,fun _=>oM hv2 ?_⟩
   all_goals simp+contextual only [hdq,hdw,<-hst,↓aU,↓XP,qo,XW1]
   all_goals rw [qi (by omega)]
   all_goals subst he2
   all_goals exact fun _=>⟨by omega,by decide,hN (l+1) _ _ (by omega) (by omega) ⟨rfl,rfl,rfl,rfl,rfl,rfl,rfl,rfl,trivial⟩ (qz rfl)⟩
  ·have hi2:l=ht:=by omega
   have hlt':((l:Int)<(ht:Int))=False:=eq_false (by omega)
   have h:=h3 hi2
   simp+contextual only [hlt',↓aU,↓XP,qo]
   apply hE
   simp+contextual only [↓XP,qo,XW1]
   exact h
def uW (x:Id3):List Int:= [x.o,x.s,x.i]
def wj (o:OpP):List Int:= [o.k]++uW o.on++uW o.to++ [o.n,o.a,o.b]
def jH (o:OpP):List UInt8:=qF (wj o)++qF (o.ids.flatMap uW)++yn [o.name,o.text]
def jd (l:List Rf):List Int:=l.flatMap fun r=>[r.o,r.s]
def jO (p:Pt):List UInt8:=qF [p.o,p.s,p.day]++qF (jd p.needs)++qr p.ops.length++p.ops.flatMap jH++qB p.sl
structure Fit (p:Pt):Prop where
 ops:p.ops.length<=1000
 needs:p.needs.length<=3000000
 ids:∀o∈p.ops,o.ids.length<=3000000
 name:∀o∈p.ops,o.name.length<=3000000
 text:∀o∈p.ops,o.text.length<=3000000
 sl:p.sl.length<=3000000
theorem oJ:ints a++ints b=ints (a++b):=by simp [ints]
theorem uT {α:Type} {l:List α} {f:α->List Int} {i:Nat} {d:α} (h:i<l.length):(l.take (i+1)).flatMap f=(l.take i).flatMap f++f (l.getD i d):=by
 rw [List.take_add_one,List.flatMap_append]
 simp [h]
theorem wy:(jd l).length=2*l.length:=by
 induction l with
 |nil=>rfl
 |cons x r ih=>simp only [jd,List.flatMap_cons,Mi,Mj,Ml] at ih ⊢;omega
theorem vE {l:List Id3}:(l.flatMap uW).length=3*l.length:=by
 induction l with
 |nil=>rfl
 |cons x r ih=>simp only [List.flatMap_cons,Mi,uW,Mj,Ml] at ih ⊢;omega
theorem mI {p:Pt} {acc:D} {b1:Nat} {H:AH} {Q:AQ} {F:List D} (hp:Fit p) (hF:Fr 123 [(1,.ptr b1 0),(3,acc),(4,.own []),(5,.i 0)] F) (hE:∀F',Fr 123 [(1,.ptr b1 0),(3,acc),(4,.own (ints (jd p.needs)))] F'->Q (.exit 0) F' ((b1,AO.cells p.d)::H)):XW Tryz.prog (vb 11) F ((b1,AO.cells p.d)::H) Q:=by
 have hbig:=qj
 have hpn:=hp.needs
 have hd:p.d= [.i p.o,.i p.s,.i p.day,.slc (qt p.needs),.slc (qu p.ops),.str p.sl]:=rfl
 refine XW.loopK hmm (fun F H'=>∃(i:Nat),i<=p.needs.length∧Fr 123 [(1,.ptr b1 0),(3,acc),(4,.own (ints (jd (p.needs.take i)))),(5,.i i)] F∧((b1,AO.cells p.d)::H)=H') (fun F H=>match F.getD 5 .any with| .int _ n'=>p.needs.length - n'.toNat|_=>0) ⟨0,by omega,hF,rfl⟩ ?_
 rintro _ _ ⟨i,hi,hF,rfl⟩ K hN hE' hR
 obtain ⟨z,rfl⟩:=hF.fl rfl
 try dsimp only [fl,zz,qa,qb] at*
 clear hF hR
 by_cases hlt:i<p.needs.length
 ·have nx:∀F',Fr 123 [(1,.ptr b1 0),(3,acc),(4,.own (ints (jd (p.needs.take i)++ [(p.needs.getD i default).o,(p.needs.getD i default).s]))),(5,.i ((i+1:Nat):Int))] F'->K .normal F' ((b1,AO.cells p.d)::H):=fun F' hF'=>hN _ _ ⟨i+1,hlt,by rw [show jd (p.needs.take (i+1))=jd (p.needs.take i)++ [(p.needs.getD i default).o,(p.needs.getD i default).s] from uT (d:=default) hlt];exact hF',(qz rfl).symm⟩ (by
   rw [Ma,hF'.2.2.2.2.1]
   simp only [Mc,Md,Mf]
   omega)
  clear hN hE hE'
  have q1:=wB hlt
  have hl:(jd (p.needs.take i)).length<=6000000:=by rw [wy,Mv];omega
  generalize jd (p.needs.take i)=ac at nx hl ⊢
  generalize p.needs.getD i default=e at q1 nx
  have he:e.d= [.i e.o,.i e.s]:=rfl
  simp+contextual only [j4,jb,hd,q1,he,qi (show i<=big by omega),↓Wf,↓XP,qh,XW1,qb,qc,qe]
  refine fun _=>⟨fun _ _ _=>⟨vA,by omega,?_⟩,fun hge=>absurd (by omega) hge⟩
  rw [<-oJ] at nx
  exact nx _ ⟨rfl,rfl,rfl,rfl,rfl,trivial⟩
 ·have hik:i=p.needs.length:=by omega
  subst hik
  clear hN
  simp+contextual only [j4,hd,↓Wf,↓XP,qh,XW1]
  rw [List.take_length]
  exact fun _=>hE' _ _ _ (hE _ ⟨rfl,rfl,rfl,rfl,trivial⟩)
theorem Co {o:OpP} {p1 acc l8:D} {q:Int} {b7:Nat} {H:AH} {Q:AQ} {F:List D} (ho:o.ids.length<=3000000) (hF:Fr 123 [(1,p1),(3,acc),(6,.i q),(7,.ptr b7 0),(8,l8),(9,.own []),(10,.i 0)] F) (hE:∀F',Fr 123 [(1,p1),(3,acc),(6,.i q),(7,.ptr b7 0),(8,l8),(9,.own (ints (o.ids.flatMap uW)))] F'->Q (.exit 4) F' ((b7,AO.cells o.d)::H)):XW Tryz.prog (vb 55) F ((b7,AO.cells o.d)::H) Q:=by
 have hbig:=qj
 have hod:o.d= [.i o.k,.i o.on.o,.i o.on.s,.i o.on.i,.i o.to.o,.i o.to.s,.i o.to.i,.slc (qW o.ids),.i o.n,.str o.name,.str o.text,.i o.a,.i o.b]:=rfl
 refine XW.loopK hmm (fun F H'=>∃(i:Nat),i<=o.ids.length∧Fr 123 [(1,p1),(3,acc),(6,.i q),(7,.ptr b7 0),(8,l8),(9,.own (ints ((o.ids.take i).flatMap uW))),(10,.i i)] F∧((b7,AO.cells o.d)::H)=H') (fun F H=>match F.getD 10 .any with| .int _ n'=>o.ids.length - n'.toNat|_=>0) ⟨0,by omega,hF,rfl⟩ ?_
 rintro _ _ ⟨i,hi,hF,rfl⟩ K hN hE' hR
 obtain ⟨z,rfl⟩:=hF.fl rfl
 try dsimp only [fl,zz,qa,qb] at*
 clear hF hR
 by_cases hlt:i<o.ids.length
 ·have nx:∀F',Fr 123 [(1,p1),(3,acc),(6,.i q),(7,.ptr b7 0),(8,l8),(9,.own (ints ((o.ids.take i).flatMap uW++uW (o.ids.getD i default)))),(10,.i ((i+1:Nat):Int))] F'->K .normal F' ((b7,AO.cells o.d)::H):=fun F' hF'=>hN _ _ ⟨i+1,hlt,by rw [uT (d:=default) hlt];exact hF',(qz rfl).symm⟩ (by
   rw [Ma,hF'.2.2.2.2.2.2.2.1]
   simp only [Mc,Md,Mf]
   omega)
  clear hN hE hE'
  have q1:=yj hlt
  have hl:((o.ids.take i).flatMap uW).length<=9000000:=by rw [vE,Mv];omega
  generalize (o.ids.take i).flatMap uW=ac at nx hl ⊢
  generalize o.ids.getD i default=e at q1 nx
  have he:e.d= [.i e.o,.i e.s,.i e.i]:=rfl
  simp+contextual only [qE,hod,q1,he,↓Wf,↓XP,qh,XW1,qb]
  refine fun _=>⟨fun _=>V0 (x:=e) ?_,fun hge=>absurd (by omega) hge⟩
  have h3: [e.o,e.s,e.i].length=3:=rfl
  simp+contextual only [jb,h3,qi (show i<=big by omega),↓Wf,↓XP,qh]
  rw [<-oJ] at nx
  exact fun _=>⟨vA,vA,by omega,nx _ ⟨rfl,rfl,rfl,rfl,rfl,rfl,rfl,rfl,trivial⟩⟩
 ·have hik:i=o.ids.length:=by omega
  subst hik
  clear hN
  simp+contextual only [qE,hod,↓Wf,↓XP,qh,XW1]
  rw [List.take_length]
  exact fun _=>hE' _ _ _ (hE _ ⟨rfl,rfl,rfl,rfl,rfl,rfl,rfl,trivial⟩)
end Go.Proofs.YtgopigkdcmhbbaaGreatDoor
end
noncomputable section
namespace Go.Proofs.YtgopigkdcmhbbaaGreatDoor
open Go.Xs
open Go Go.Aw
noncomputable def mX:=yy Tryz.f86
def V86:=PLift.up (aI (aI (@unf (mX 14) (r [u,u,u]) rfl) (@unf (mX 10) (X (O (R [u,v,u,u] (mX 14))) (r [u,u])) rfl)) (aI (@unf (mX 4) (R [u] (X I (mX 10))) rfl) (@unf (mX 0) (R [u,u,u] (U (mX 4))) rfl)))
theorem Fw:type_of% V86.down:=V86.down
theorem b86:Bt 86 16 (mX 0) []:=bt Tryz.func86 rfl
end Go.Proofs.YtgopigkdcmhbbaaGreatDoor
end
section
namespace Go.Proofs.YtgopigkdcmhbbaaGreatDoor
open Go Go.Aw
theorem Ar {R:D->AH->Prop} (hl:xs.length<=30000000) (hbH:qn H b=none) (h:R (.tup []) ((b,.cells [.own (ints (xs++uW x))])::H)):ACall Tryz.prog 85 [.ptr b 0,.agg x.d] ((b,.cells [.own (ints xs)])::H) R:=by
 refine b85 fun hf=>?_
 have hbig:=qj
 have hd:x.d= [.i x.o,.i x.s,.i x.i]:=rfl
 simp+contextual only [EK,hd,↓fp,↓XP,qh,XW1,qa,qb]
 intro b1 hb
 have hb0:=Ne.symm hb.1
 have hn:=jl (H:=H) hb.2
 simp+contextual only [hb.1,u5 hb.1,qg hb.1,qk,not_false_eq_true,jb,↓XP,qh,XW1,qb,qc,qe]
 refine ⟨.inl hbH,fun _ _ _=>⟨vA,by omega,?_⟩⟩
 rw [<-oJ] at h
 exact h
theorem Aj {R:D->AH->Prop} (hl:xs.length<=30000000) (hcb:b≠c) (hbH:qn H b=none) (h:R (.tup []) ((c,o)::(b,.cells [.own (ints (xs++uW x))])::H)):ACall Tryz.prog 85 [.ptr b 0,.agg x.d] ((c,o)::(b,.cells [.own (ints xs)])::H) R:=by
 refine b85 fun hf=>?_
 have hbig:=qj
 have hd:x.d= [.i x.o,.i x.s,.i x.i]:=rfl
 simp+contextual only [EK,hd,hcb,qg hcb,qk,not_false_eq_true,↓fp,↓XP,qh,XW1,qa,qb]
 intro b1 hb
 have hb0:=Ne.symm hb.2.1
 have hn:=jl (H:=H) hb.2.2
 simp+contextual only [u5 hb.2.1,u5 hcb,qg hcb,qg hb.2.1,qk hb.2.1,qk hcb,jb,↓XP,qh,XW1,qb,qc,qe]
 refine ⟨.inl hbH,fun _ _ _=>⟨vA,by omega,?_⟩⟩
 rw [<-oJ] at h
 exact h
theorem tW {R:D->AH->Prop} (hfi:fi=85) (hi:ids.length<=3000000) (hl:xs.length<=10000000) (hbH:qn H b=none) (h:R (.tup []) ((b,.cells [.own (ints (xs++ids.flatMap uW))])::H)):ACall Tryz.prog 86 [.slc (qW ids),.fn fi [.tup [],.ptr b 0]] ((b,.cells [.own (ints xs)])::H) R:=by
 refine b86 fun hf=>?_
 have hbig:=qj
 simp+contextual only [↓Fw,qE,↓XP,qh,qa,qb]
 refine fun _=>XW.loopK hmm (fun F H'=>∃(i:Nat),i<=ids.length∧Fr 16 [(1,.fn fi [.tup [],.ptr b 0]),(6,.slc (qW ids)),(7,.i ids.length),(8,.i i)] F∧((b,AO.cells [.own (ints (xs++(ids.take i).flatMap uW))])::H)=H') (fun F H=>match F.getD 8 .any with| .int _ n'=>ids.length - n'.toNat|_=>0) ⟨0,by omega,⟨rfl,rfl,rfl,rfl,rfl,trivial⟩,by simp⟩ ?_
 rintro _ _ ⟨i,hi',hF,rfl⟩ K hN hE' hR
 obtain ⟨z,rfl⟩:=hF.fl rfl
 try dsimp only [fl,zz,qa,qb] at*
 clear hF hR
 by_cases hlt:i<ids.length
 ·have nx:∀F' H',back ((b,AO.cells [.own (ints (xs++(ids.take i).flatMap uW))])::H).length H'=((b,AO.cells [.own (ints ((xs++(ids.take i).flatMap uW)++uW (ids.getD i default)))])::H)->Fr 16 [(1,.fn fi [.tup [],.ptr b 0]),(6,.slc (qW ids)),(7,.i ids.length),(8,.i ((i+1:Nat):Int))] F'->K .normal F' H':=fun F' H' hH hF'=>hN _ _ ⟨i+1,hlt,hF',by rw [uT (d:=default) hlt,<-Mp];exact hH.symm⟩ (by
   rw [Ma,hF'.2.2.2.2.1]
   simp only [Mc,Md,Mf]
   omega)
  clear hN hE'
  have q1:=yj hlt
  have hl2:(xs++(ids.take i).flatMap uW).length<=20000000:=by rw [Mi,vE,Mv];omega
  generalize xs++(ids.take i).flatMap uW=ac at nx hl2 ⊢
  generalize ids.getD i default=e at q1 nx
  have he:e.d= [.i e.o,.i e.s,.i e.i]:=rfl
  simp+contextual only [qE,hlt,Int.ofNat_lt,q1,he,↓Fw,↓XP,qh,XW1,qb]
  intro b5 hb
  rw [hfi]
  refine Aj (x:=e) (by omega) hb.1 hbH ?_
  rw [<-hfi]
  simp+contextual only [qi (show i<=big by omega),↓XP,qo,XW1]
  exact nx _ _ (kV rfl) ⟨rfl,rfl,rfl,rfl,rfl,trivial⟩
 ·have hik:i=ids.length:=by omega
  subst hik
  clear hN
  simp+contextual only [↓Fw,↓XP,qo]
  rw [List.take_length]
  refine hE' _ _ _ ?_
  simp+contextual only [↓XP,qo,XW1]
  exact h
theorem U4 (h:∀x∈l,x.length<=3000000):(yn l).length<=(9+3000000)*l.length+(qr l.length).length:=by
 have:=z6 h (by omega)
 rw [yn,Mi]
 omega
theorem xY (hp:Fit p) (hpre:pre.length<=100000000) (hF:Fr 123 [(1,.ptr b1 0),(3,.own (pre.map ql)),(6,.i 0)] F) (hE:(pre++p.ops.flatMap jH).length<=1000000000000->∀F',Fr 123 [(1,.ptr b1 0),(3,.own ((pre++p.ops.flatMap jH).map ql))] F'->Q (.exit 2) F' ((b1,AO.cells p.d)::H)):XW Tryz.prog (vb 30) F ((b1,AO.cells p.d)::H) Q:=by
 have hbig:=qj
 have hpo:=hp.ops
 have hd:p.d= [.i p.o,.i p.s,.i p.day,.slc (qt p.needs),.slc (qu p.ops),.str p.sl]:=rfl
 refine XW.loopK hmm (fun F H'=>∃(i:Nat),i<=p.ops.length∧(pre++(p.ops.take i).flatMap jH).length<=100000000+100000000*i∧Fr 123 [(1,.ptr b1 0),(3,.own ((pre++(p.ops.take i).flatMap jH).map ql)),(6,.i (i:Int))] F∧((b1,AO.cells p.d)::H)=H') (fun F H=>match F.getD 6 .any with| .int _ n'=>p.ops.length - n'.toNat|_=>0) ⟨0,by omega,by simpa using hpre,by simpa using hF,rfl⟩ ?_
 clear hF
 rintro _ _ ⟨i,hi,hln,hF,rfl⟩ K hN hE' hR
 obtain ⟨z,rfl⟩:=hF.fl rfl
 try dsimp only [fl,zz,qa,qb] at*
 clear hF hR
 by_cases hlt:i<p.ops.length
 ·have nx:(jH (p.ops.getD i default)).length<=100000000->∀F' H',back ((b1,AO.cells p.d)::H).length H'=((b1,AO.cells p.d)::H)->Fr 123 [(1,.ptr b1 0),(3,.own ((pre++(p.ops.take i).flatMap jH++jH (p.ops.getD i default)).map ql)),(6,.i ((i+1:Nat):Int))] F'->K .normal F' H':=fun hl F' H' hH hF'=>hN _ _ ⟨i+1,hlt,by
    rw [yO (d:=default) hlt,<-Mp,Mi]
    omega,by rw [yO (d:=default) hlt,<-Mp];exact hF',hH.symm⟩ (by
   rw [Ma,hF'.2.2.2.1]
   simp only [Mc,Md,Mf]
   omega)
  clear hN hE hE'
  have q1:=kJ hlt
  have hm:p.ops.getD i default∈p.ops:=by rw [jx hlt];exact List.getElem_mem hlt
  have o1:=hp.ids _ hm
  have o2:=hp.name _ hm
  have o3:=hp.text _ hm
  generalize pre++(p.ops.take i).flatMap jH=ac at nx hln ⊢
  generalize p.ops.getD i default=o at q1 nx o1 o2 o3
  have hod:o.d= [.i o.k,.i o.on.o,.i o.on.s,.i o.on.i,.i o.to.o,.i o.to.s,.i o.to.i,.slc (qW o.ids),.i o.n,.str o.name,.str o.text,.i o.a,.i o.b]:=rfl
  simp+contextual only [qI,hd,q1,hod,↓Wf,↓XP,qh,XW1,qb,qc,qe]
  refine fun _=>⟨fun _ b7 hb _=>V0 (x:=o.on) ?_,fun hge=>absurd (by omega) hge⟩
  obtain ⟨n17,h7⟩:=hb
  simp+contextual only [ints,↓Wf,↓XP,qh,XW1,qb,qc,qe]
  refine fun _=>V0 (x:=o.to) ?_
  simp+contextual only [ints,↓Wf,↓XP,qh,XW1,qb,qc,qe]
  refine fun _ _ _ _=>Co (o:=o) (p1:= .ptr b1 0) (acc:= .own (ac.map ql)) (l8:= .own (ints (wj o))) (q:=i) (b7:=b7) o1 ⟨rfl,rfl,rfl,rfl,rfl,rfl,rfl,rfl,trivial⟩ (fun F' hF'=>?_)
  obtain ⟨z,rfl⟩:=hF'.fl rfl
  try dsimp only [fl,zz,qa,qb] at*
  clear hF'
  have l10:(wj o).length=10:=rfl
  have l3:=vE (l:=o.ids)
  simp+contextual only [hod,↓Wf,↓XP,qo,XW1,qf]
  refine gL (by omega) fun k1=>?_
  simp+contextual only [↓Wf,↓XP,qh]
  refine fun _=>⟨qO,qO,by omega,gL (by omega) fun k2=>?_⟩
  simp+contextual only [<-Mo,Mi,↓Wf,↓XP,qh,XW1,qc,qe]
  refine fun _=>⟨qO,qO,by omega,?_⟩
  have hb3:∀x∈ [o.name,o.text],x.length<=3000000:=by
   intro x hx
   simp only [Mt,M0,or_false] at hx
   rcases hx with rfl|rfl
   ·exact o2
   ·exact o3
  have k3:=U4 hb3
  have k4:=kZ (n:= [o.name,o.text].length) (by simp)
  refine fun _ _=>Z4 (l:= [o.name,o.text]) (by simp) hb3 ?_
  simp+contextual only [<-Mo,Mi,qi (show i<=big by omega),↓Wf,↓XP,qh]
  have e2:([o.name,o.text]:List (List UInt8)).length=2:=rfl
  rw [e2] at k3 k4
  refine fun _=>⟨qO,qO,by omega,nx ?_ _ _ (kV rfl) ?_⟩
  ·simp only [jH,Mi]
   omega
  ·rw [show ac++jH o=ac++qF (wj o)++qF (o.ids.flatMap uW)++yn [o.name,o.text] by simp only [jH,Mp]]
   exact ⟨rfl,rfl,rfl,rfl,trivial⟩
 ·have hik:i=p.ops.length:=by omega
  subst hik
  clear hN
  simp+contextual only [qI,hd,↓Wf,↓XP,qh,XW1]
  rw [List.take_length] at hln ⊢
  simp only [<-hd]
  exact fun _=>hE' _ _ _ (hE (by omega) _ ⟨rfl,rfl,rfl,trivial⟩)
theorem dj {R:D->AH->Prop} (hp:Fit p) (h:(jO p).length<=2000000000000->R (.own ((jO p).map ql)) H):ACall Tryz.prog 68 [.agg p.d] H R:=by
 refine b68 fun hf=>?_
 have hbig:=qj
 have hpo:=hp.ops
 have hpn:=hp.needs
 have hps:=hp.sl
 have hd:p.d= [.i p.o,.i p.s,.i p.day,.slc (qt p.needs),.slc (qu p.ops),.str p.sl]:=rfl
 simp+contextual only [↓Wf,hd,↓Wf,↓XP,qh,XW1,qa,qc,qe]
 refine fun b1 h1 _ _ _=>gL (l:= [p.o,p.s,p.day]) (by simp) fun k1=>?_
 have e3:([p.o,p.s,p.day]:List Int).length=3:=rfl
 rw [e3] at k1
 have hk:=fun c=>(c:Prop)
 simp+contextual only [↓Wf,↓XP,qo]
 simp only [<-hd]
 obtain ⟨pre,hpre⟩:∃pre,qF [p.o,p.s,p.day]=pre:=⟨_,rfl⟩
 have henc:jO p=pre++qF (jd p.needs)++qr p.ops.length++p.ops.flatMap jH++qB p.sl:=by rw [<-hpre];rfl
 rw [henc] at h
 rw [hpre] at k1 ⊢
 refine fun _=>mI (p:=p) (acc:= .own (pre.map ql)) hp ⟨rfl,rfl,rfl,rfl,rfl,trivial⟩ (fun F' hF'=>?_)
 obtain ⟨z,rfl⟩:=hF'.fl rfl
 try dsimp only [fl,zz,qa,qb] at*
 clear hF'
 have l2:=wy (l:=p.needs)
 simp+contextual only [hd,↓Wf,↓XP,qo,XW1]
 refine gL (by omega) fun k2=>?_
 simp+contextual only [qI,<-Mo,↓Wf,↓XP,qh,XW1]
 have k3:=kZ (n:=p.ops.length) (by omega)
 refine fun _=>⟨qO,qO,by omega,fun _=>gd fun _=>?_⟩
 simp+contextual only [<-Mo,Mi,↓XP,qh]
 simp only [<-hd]
 refine fun _=>⟨qO,qO,by omega,?_⟩
 obtain ⟨pre2,hp2⟩:∃pre2,pre++qF (jd p.needs)++qr p.ops.length=pre2:=⟨_,rfl⟩
 have hl2:pre2.length<=100000000:=by rw [<-hp2];simp only [Mi];omega
 rw [hp2] at h ⊢
 refine xY (p:=p) (pre:=pre2) hp hl2 ⟨rfl,rfl,rfl,rfl,trivial⟩ (fun k5 F' hF'=>?_)
 obtain ⟨z,rfl⟩:=hF'.fl rfl
 try dsimp only [fl,zz,qa,qb] at*
 clear hF'
 simp only [Mi] at k5
 simp+contextual only [hd,↓Wf,↓XP,qh,XW1]
 have k6:=kZ (n:=p.sl.length) (by omega)
 refine fun _=>Ka (by omega) ?_
 have k7:(qB p.sl).length<=9+3000000:=by simp only [qB,Mi];omega
 simp+contextual only [<-Mo,Mi,↓XP,qh]
 exact fun _=>⟨qO,qO,by omega,h (by simp only [Mi];omega)⟩
theorem i9 {p:Pt} {acc:D} {b1:Nat} {H:AH} {Q:AQ} {F:List D} (hp:p.needs.length<=3000000) (hF:Fr 99 [(1,.ptr b1 0),(3,acc),(4,.own []),(20,.slc (qt p.needs)),(21,.i p.needs.length),(22,.i 0)] F) (hE:∀F',Fr 99 [(1,.ptr b1 0),(3,acc),(4,.own (ints (jd p.needs)))] F'->Q (.exit 0) F' ((b1,AO.cells p.d)::H)):XW Tryz.prog (gn 11) F ((b1,AO.cells p.d)::H) Q:=by
 have hbig:=qj
 refine XW.loopK hmm (fun F H'=>∃(i:Nat),i<=p.needs.length∧Fr 99 [(1,.ptr b1 0),(3,acc),(4,.own (ints (jd (p.needs.take i)))),(20,.slc (qt p.needs)),(21,.i p.needs.length),(22,.i i)] F∧((b1,AO.cells p.d)::H)=H') (fun F H=>match F.getD 22 .any with| .int _ n'=>p.needs.length - n'.toNat|_=>0) ⟨0,by omega,hF,rfl⟩ ?_
 rintro _ _ ⟨i,hi,hF,rfl⟩ K hN hE' hR
 obtain ⟨z,rfl⟩:=hF.fl rfl
 try dsimp only [fl,zz,qa,qb] at*
 clear hF hR
 by_cases hlt:i<p.needs.length
 ·have nx:∀F' H',back ((b1,AO.cells p.d)::H).length H'=((b1,AO.cells p.d)::H)->Fr 99 [(1,.ptr b1 0),(3,acc),(4,.own (ints (jd (p.needs.take i)++ [(p.needs.getD i default).o,(p.needs.getD i default).s]))),(20,.slc (qt p.needs)),(21,.i p.needs.length),(22,.i ((i+1:Nat):Int))] F'->K .normal F' H':=fun F' H' hH hF'=>hN _ _ ⟨i+1,hlt,by rw [show jd (p.needs.take (i+1))=jd (p.needs.take i)++ [(p.needs.getD i default).o,(p.needs.getD i default).s] from uT (d:=default) hlt];exact hF',hH.symm⟩ (by
   rw [Ma,hF'.2.2.2.2.2.2.1]
   simp only [Mc,Md,Mf]
   omega)
  clear hN hE hE'
  have q1:=wB hlt
  have hl:(jd (p.needs.take i)).length<=6000000:=by rw [wy,Mv];omega
  generalize jd (p.needs.take i)=ac at nx hl ⊢
  generalize p.needs.getD i default=e at q1 nx
  have he:e.d= [.i e.o,.i e.s]:=rfl
  simp+contextual only [j4,jb,hlt,Int.ofNat_lt,q1,he,qi (show i<=big by omega),↓Z2,↓u4,↓XP,qh,XW1,qb,qc,qe]
  refine fun b6 _ _ _=>⟨vA,by omega,?_⟩
  rw [<-oJ] at nx
  exact nx _ _ (kV rfl) ⟨rfl,rfl,rfl,rfl,rfl,rfl,rfl,trivial⟩
 ·have hik:i=p.needs.length:=by omega
  subst hik
  clear hN
  simp+contextual only [↓Z2,↓u4,↓XP,qo]
  rw [List.take_length]
  exact hE' _ _ _ (hE _ ⟨rfl,rfl,rfl,rfl,trivial⟩)
theorem ER {b8} (o1:o.ids.length<=3000000) (o2:o.name.length<=3000000) (o3:o.text.length<=3000000) (hln:ac.length<=1000000000000) (hF:Fr 99 [(1,p1),(3,.own (ac.map ql)),(8,.ptr b8 0),(45,c45),(46,c46),(47,.i q)] F)
  (hE:(jH o).length<=100000000->∀F' H',(∃pre,H'=pre++((b8,AO.cells o.d)::H))->Fr 99 [(1,p1),(3,.own ((ac++jH o).map ql)),(45,c45),(46,c46),(47,.i q)] F'->Q .normal F' H'):xcode Tryz.prog x42_s9 F ((b8,AO.cells o.d)::H) Q:=by
 have hbig:=qj
 obtain ⟨z,rfl⟩:=hF.fl rfl
 try dsimp only [fl,zz,qa,qb] at*
 have hod:o.d= [.i o.k,.i o.on.o,.i o.on.s,.i o.on.i,.i o.to.o,.i o.to.s,.i o.to.i,.slc (qW o.ids),.i o.n,.str o.name,.str o.text,.i o.a,.i o.b]:=rfl
 simp+contextual only [hod,↓Z2,↓u4,↓XP,qh,XW1,qb,qc,qe,reduceCtorEq]
 refine fun _=>⟨by decide,fun br cap hr b9 hb9=>?_⟩
 rw [Jf]
 refine Gz.take (j:=0) rfl (fun _=>jf) ?_
 have e1:jB ((br,.room cap [[D.i o.k]])::(b8,AO.cells o.d)::H) br [[D.i o.k]]=((b8,AO.cells o.d)::H):=by simp [jB,qN]
 rw [hod] at e1
 simp+contextual only [e1,↓u4,↓XP,qh]
 clear e1 hF
 obtain ⟨_,h89,h9⟩:=hb9
 obtain ⟨_,h8r⟩:=hr
 have hn9:qn ((b8,AO.cells o.d)::H) b9=none:=jl ⟨Ne.symm h89,h9⟩
 rw [hod] at hn9
 simp+contextual only [qg h89,↓u4,↓XP,qo,qb,qe]
 refine Ar (x:=o.on) (xs:= [o.k]) (by simp) hn9 ?_
 simp+contextual only [qg h89,↓Z2,↓u4,↓XP,qh,XW1,qb,qe]
 refine Ar (x:=o.to) (xs:= [o.k]++uW o.on) (by simp [uW]) hn9 ?_
 simp+contextual only [jb,qg h89,↓Z2,↓u4,↓XP,qh,XW1,qb,qc,qe]
 refine fun _ _ _=>⟨vA,by simp [uW],?_⟩
 rw [show ints (o.k::(uW o.on++uW o.to))++ [[D.i o.n],[D.i o.a],[D.i o.b]]=ints (wj o) from rfl]
 have l10:(wj o).length=10:=rfl
 have l3:=vE (l:=o.ids)
 refine gC (by omega) fun k1=>?_
 simp+contextual only [qE,qg h89,↓Z2,↓u4,↓XP,qh,XW1]
 refine fun _=>⟨qO,qO,by omega,fun YT hb10=>?_⟩
 obtain ⟨h910,h810,h10⟩:=hb10
 have hn10:qn ((b9,AO.cells [.slc (ints (o.k::(uW o.on++uW o.to)))])::(b8,AO.cells o.d)::H) YT=none:=jl ⟨Ne.symm h910,Ne.symm h810,h10⟩
 rw [hod] at hn10
 refine fun _=>tW (ids:=o.ids) (xs:= []) rfl o1 (by simp) hn10 ?_
 rw [Mx]
 simp+contextual only [jb,↓Z2,↓u4,↓XP,qh,XW1]
 refine fun _=>gC (l:=o.ids.flatMap uW) (by omega) fun k2=>?_
 simp+contextual only [qg h89,qg h810,<-Mo,Mi,↓Z2,↓u4,↓XP,qh,XW1,qc,qe]
 refine fun _=>⟨qO,qO,by omega,?_⟩
 have hb3:∀x∈ [o.name,o.text],x.length<=3000000:=by
  intro x hx
  simp only [Mt,M0,or_false] at hx
  rcases hx with rfl|rfl
  ·exact o2
  ·exact o3
 have k3:=U4 hb3
 have k4:=kZ (n:= [o.name,o.text].length) (by simp)
 refine fun _ _=>ZU (l:= [o.name,o.text]) (by simp) hb3 ?_
 simp+contextual only [<-Mo,Mi,↓u4,↓XP,qh]
 have e2:([o.name,o.text]:List (List UInt8)).length=2:=rfl
 rw [e2] at k3 k4
 refine fun _=>⟨qO,qO,by omega,hE ?_ _ _ ⟨[(YT,_),(b9,_)],rfl⟩ ?_⟩
 ·simp only [jH,Mi]
  omega
 ·rw [show ac++jH o=ac++qF (wj o)++qF (o.ids.flatMap uW)++yn [o.name,o.text] by simp only [jH,Mp]]
  exact ⟨rfl,rfl,rfl,rfl,rfl,rfl,trivial⟩
theorem dD:back H.length (A++H)=H:=by simp [back]
theorem AU (hp:Fit p) (hpre:pre.length<=100000000) (hF:Fr 99 [(1,.ptr b1 0),(3,.own (pre.map ql)),(45,.slc (qu p.ops)),(46,.i p.ops.length),(47,.i 0)] F) (hE:(pre++p.ops.flatMap jH).length<=1000000000000->∀F',Fr 99 [(1,.ptr b1 0),(3,.own ((pre++p.ops.flatMap jH).map ql))] F'->Q (.exit 2) F' ((b1,AO.cells p.d)::H)):XW Tryz.prog x42_L11 F ((b1,AO.cells p.d)::H) Q:=by
 have hbig:=qj
 have hpo:=hp.ops
 refine XW.loopK hmm (fun F H'=>∃(i:Nat),i<=p.ops.length∧(pre++(p.ops.take i).flatMap jH).length<=100000000+100000000*i∧Fr 99 [(1,.ptr b1 0),(3,.own ((pre++(p.ops.take i).flatMap jH).map ql)),(45,.slc (qu p.ops)),(46,.i p.ops.length),(47,.i (i:Int))] F∧((b1,AO.cells p.d)::H)=H') (fun F H=>match F.getD 47 .any with| .int _ n'=>p.ops.length - n'.toNat|_=>0) ⟨0,by omega,by simpa using hpre,by simpa using hF,rfl⟩ ?_
 clear hF
 rintro _ _ ⟨i,hi,hln,hF,rfl⟩ K hN hE' hR
 obtain ⟨z,rfl⟩:=hF.fl rfl
 try dsimp only [fl,zz,qa,qb] at*
 clear hF hR
 by_cases hlt:i<p.ops.length
 ·have nx:(jH (p.ops.getD i default)).length<=100000000->∀F' H',back ((b1,AO.cells p.d)::H).length H'=((b1,AO.cells p.d)::H)->Fr 99 [(1,.ptr b1 0),(3,.own ((pre++(p.ops.take i).flatMap jH++jH (p.ops.getD i default)).map ql)),(45,.slc (qu p.ops)),(46,.i p.ops.length),(47,.i ((i+1:Nat):Int))] F'->K .normal F' H':=fun hl F' H' hH hF'=>hN _ _ ⟨i+1,hlt,by
    rw [yO (d:=default) hlt,<-Mp,Mi]
    omega,by rw [yO (d:=default) hlt,<-Mp];exact hF',hH.symm⟩ (by
   rw [Ma,hF'.2.2.2.2.2.1]
   simp only [Mc,Md,Mf]
   omega)
  clear hN hE hE'
  have q1:=kJ hlt
  have hm:p.ops.getD i default∈p.ops:=by rw [jx hlt];exact List.getElem_mem hlt
  have o1:=hp.ids _ hm
  have o2:=hp.name _ hm
  have o3:=hp.text _ hm
  generalize pre++(p.ops.take i).flatMap jH=ac at nx hln ⊢
  generalize p.ops.getD i default=o at q1 nx o1 o2 o3
  have hod:o.d= [.i o.k,.i o.on.o,.i o.on.s,.i o.on.i,.i o.to.o,.i o.to.s,.i o.to.i,.slc (qW o.ids),.i o.n,.str o.name,.str o.text,.i o.a,.i o.b]:=rfl
  simp+contextual only [x42_L11,iU,qI,hlt,Int.ofNat_lt,q1,hod,↓u4,↓XP,qh,XW1,qb]
  refine fun b8 hb=>ER (o:=o) (ac:=ac) (q:=i) (b8:=b8) (p1:= .ptr b1 0) o1 o2 o3 (by omega) ⟨rfl,rfl,rfl,rfl,rfl,rfl,rfl,trivial⟩ fun hl F' H' hpre' hF'=>?_
  obtain ⟨pr,rfl⟩:=hpre'
  obtain ⟨z,rfl⟩:=hF'.fl rfl
  try dsimp only [fl,zz,qa,qb] at*
  clear hF'
  simp+contextual only [qi (show i<=big by omega),↓u4,↓XP,qo]
  refine nx hl _ _ ?_ ⟨rfl,rfl,rfl,rfl,rfl,rfl,trivial⟩
  rw [show pr++(b8,AO.cells o.d)::(b1,AO.cells p.d)::H=(pr++ [(b8,AO.cells o.d)])++(b1,AO.cells p.d)::H by simp]
  exact dD
 ·have hik:i=p.ops.length:=by omega
  subst hik
  clear hN
  simp+contextual only [↓Z2,↓u4,↓XP,qo]
  rw [List.take_length] at hln ⊢
  exact hE' _ _ _ (hE (by omega) _ ⟨rfl,rfl,rfl,trivial⟩)
theorem nQ {R:D->AH->Prop} (hp:Fit p) (h:(jO p).length<=2000000000000->R (.own ((jO p).map ql)) H):ACall Tryz.prog 42 [.agg p.d] H R:=by
 refine b42 fun hf=>?_
 have hbig:=qj
 have hpo:=hp.ops
 have hpn:=hp.needs
 have hps:=hp.sl
 have hd:p.d= [.i p.o,.i p.s,.i p.day,.slc (qt p.needs),.slc (qu p.ops),.str p.sl]:=rfl
 simp+contextual only [x42,hd,↓Z2,↓u4,↓XP,qh,XW1,qa,qc,qe]
 refine fun b1 h1 _ _ _=>gC (l:= [p.o,p.s,p.day]) (by simp) fun k1=>?_
 have e3:([p.o,p.s,p.day]:List Int).length=3:=rfl
 rw [e3] at k1
 simp+contextual only [j4,↓Z2,↓u4,↓XP,qh,XW1]
 simp only [<-hd]
 obtain ⟨pre,hpre⟩:∃pre,qF [p.o,p.s,p.day]=pre:=⟨_,rfl⟩
 have henc:jO p=pre++qF (jd p.needs)++qr p.ops.length++p.ops.flatMap jH++qB p.sl:=by rw [<-hpre];rfl
 rw [henc] at h
 rw [hpre] at k1 ⊢
 refine fun _ _=>i9 (p:=p) (acc:= .own (pre.map ql)) hpn ⟨rfl,rfl,rfl,rfl,rfl,rfl,rfl,trivial⟩ (fun F' hF'=>?_)
 obtain ⟨z,rfl⟩:=hF'.fl rfl
 try dsimp only [fl,zz,qa,qb] at*
 clear hF'
 have l2:=wy (l:=p.needs)
 simp+contextual only [hd,↓Z2,↓u4,↓XP,qo,XW1]
 refine gC (l:=jd p.needs) (by omega) fun k2=>?_
 simp+contextual only [qI,<-Mo,↓Z2,↓u4,↓XP,qh,XW1]
 have k3:=kZ (n:=p.ops.length) (by omega)
 refine fun _=>⟨qO,qO,by omega,?_⟩
 refine fun _=>zU fun _=>?_
 simp+contextual only [qI,<-Mo,Mi,↓Z2,↓u4,↓XP,qh,XW1]
 simp only [<-hd]
 refine fun _=>⟨qO,qO,by omega,?_⟩
 obtain ⟨pre2,hp2⟩:∃pre2,pre++qF (jd p.needs)++qr p.ops.length=pre2:=⟨_,rfl⟩
 have hl2:pre2.length<=100000000:=by rw [<-hp2];simp only [Mi];omega
 rw [hp2] at h ⊢
 refine fun _=>AU (p:=p) (pre:=pre2) hp hl2 ⟨rfl,rfl,rfl,rfl,rfl,rfl,trivial⟩ (fun k5 F' hF'=>?_)
 obtain ⟨z,rfl⟩:=hF'.fl rfl
 try dsimp only [fl,zz,qa,qb] at*
 clear hF'
 simp only [Mi] at k5
 simp+contextual only [hd,↓Z2,↓u4,↓XP,qh,XW1]
 have k6:=kZ (n:=p.sl.length) (by omega)
 refine fun _=>Kq (s:=p.sl) (by omega) ?_
 have k7:(qB p.sl).length<=9+3000000:=by simp only [qB,Mi];omega
 simp+contextual only [<-Mo,Mi,↓u4,↓XP,qh]
 exact fun _=>⟨qO,qO,by omega,h (by simp only [Mi];omega)⟩
theorem gY {l:List UInt8}:∀x∈l.map ql,yT x:=by
 intro x hx
 obtain ⟨t,_,rfl⟩:=List.mem_map.1 hx
 have:=t.toNat_lt
 exact ⟨by omega,by omega⟩
theorem Jw {l:List UInt8}:(l.map ql).map unbyte=l:=by
 rw [My]
 refine (Mz fun x _=>?_).trans (List.map_id l)
 simp [ql,unbyte]
theorem nB {R:D->AH->Prop} (hp:Fit p) (h:R (.str (jO {p with sl:= []})) H):ACall Tryz.prog 28 [.agg p.d] H R:=by
 refine b28 fun hf=>?_
 have hbig:=qj
 have hd:p.d= [.i p.o,.i p.s,.i p.day,.slc (qt p.needs),.slc (qu p.ops),.str p.sl]:=rfl
 simp+contextual only [↓U28,hd,↓U28.1,↓XP,qh,qa,qb]
 refine fun b1 h1=>nQ (p:={p with sl:= []}) ⟨hp.ops,hp.needs,hp.ids,hp.name,hp.text,by simp⟩ fun k=>?_
 simp+contextual only [↓XP,qh,XW1]
 refine fun _=>⟨gY,?_⟩
 rw [Jw]
 exact h
def yx (x:Id3):Prop:=0<=x.o∧x.o<=7∧1<=x.s∧x.s<=16∧0<=x.i∧x.i<=15
instance (x:Id3):Decidable (yx x):=by unfold yx;exact inferInstance
def yf (a b:Int):Prop:=1<=a∧a<=b∧b<=1022679
instance (a b:Int):Decidable (yf a b):=by unfold yf;exact inferInstance
def uses (k:Int):List UInt8:=
 if k=1 then [65,88] else if k=2∨k=8∨k=10∨k=9 then [79,78] else if k=3 then [65,88,83] else if k=4 then [79,84,78,88]
 else if k=5∨k=7 then [79,88] else if k=6 then [79,65] else if k=11 then [79,83] else if k=12 then [79,65,88] else if k=13∨k=15 then [79,84,78]
 else if k=14 then [79,65,78] else if k=16 then [79,73,78] else if k=17 then [79,84] else if k=18 then [79,84,73] else []
def Qx (k:Int):Int:=if k=16 then -1 else 0
def zi (o:OpP):Int:=if o.k=9∨o.k=14∨o.k=15 then 1 else if o.k=13 then 1023 else if o.k=16 then o.ids.length - 1 else 1048576
def zN (o:OpP):Prop:=Qx o.k<=o.n∧o.n<=zi o
instance (o:OpP):Decidable (zN o):=by unfold zN;exact inferInstance
def Q4 (o:OpP):Prop:=(∀x∈o.ids,yx x∧(o.k=16->x≠o.on))∧o.ids.Nodup∧(o.k=18->o.ids.length=1)∧(o.k≠18->2<=o.ids.length∧o.ids.length<=4)
instance (o:OpP):Decidable (Q4 o):=by unfold Q4;exact inferInstance
theorem GC {R:D->AH->Prop} (h:R (.bool (decide (yx x))) H):ACall Tryz.prog 106 [.agg x.d] H R:=by
 refine E0 fun hf=>?_
 have hd:x.d= [.i x.o,.i x.s,.i x.i]:=rfl
 have hk:∀b,decide (yx x)=b->R (.bool b) H:=fun b hb=>hb▸h
 simp+contextual only [↓U106,hd,↓U106.1,↓XP,qh,XW1,qa]
 intro b1 h1
 repeat' (first|apply And.intro|intro _)
 all_goals first
  |exact hk _ (decide_eq_true (by unfold yx;omega))
  |exact hk _ (decide_eq_false (by unfold yx;omega))
  |exact hk _ (decide_eq_decide.2 (by unfold yx;omega))
  |skip
theorem lq {R:D->AH->Prop} (h:R (.bool (decide (yf a b))) H):ACall Tryz.prog 109 [.agg [.i a,.i b]] H R:=by
 refine Io fun hf=>?_
 have hk:∀c,decide (yf a b)=c->R (.bool c) H:=fun b hb=>hb▸h
 simp+contextual only [↓U109,↓U109.1,↓XP,qh,XW1,qa]
 intro b1 h1
 repeat' (first|apply And.intro|intro _)
 all_goals first
  |exact hk _ (decide_eq_true (by unfold yf;omega))
  |exact hk _ (decide_eq_false (by unfold yf;omega))
  |exact hk _ (decide_eq_decide.2 (by unfold yf;omega))
  |skip
theorem iz {R:D->AH->Prop} (h:R (.str (uses k)) H):ACall Tryz.prog 104 [.i k] H R:=by
 refine Eb fun hf=>?_
 have hk:∀s,uses k=s->R (.str s) H:=fun b hb=>hb▸h
 simp+contextual only [↓CU,↓CU,↓XP,qo,qa]
 repeat' (first|apply And.intro|intro _)
 all_goals first
  |exact hk _ (by unfold uses;simp [*])
  |skip
theorem gj {R:D->AH->Prop} (h:R (.bool (decide (c∈s))) H):ACall Tryz.prog 105 [.str s,.int .u8 (c.toNat:Int)] H R:=by
 refine IE fun hf=>?_
 have hbig:=qj
 have hlen:s.length<=big:=hf.1
 have hk:∀b,decide (c∈s)=b->R (.bool b) H:=fun b hb=>hb▸h
 simp+contextual only [↓lh,↓lh,↓XP,qo,qa,qb]
 refine XW.loopK hmm (fun F H'=>∃(i:Nat),i<=s.length∧c ∉ s.take i∧Fr 17 [(0,.str s),(1,.int .u8 (c.toNat:Int)),(5,.i i)] F∧H=H') (fun F H=>match F.getD 5 .any with| .int _ n'=>s.length - n'.toNat|_=>0) ⟨0,by omega,by simp,⟨rfl,rfl,rfl,rfl,trivial⟩,rfl⟩ ?_
 rintro _ _ ⟨i,hi,hn,hF,rfl⟩ K hN hE hR
 obtain ⟨z,rfl⟩:=hF.fl rfl
 try dsimp only [fl,zz,qa,qb] at*
 clear hF
 by_cases hlt:i<s.length
 ·have nx:c ∉ s.take (i+1)->∀F',Fr 17 [(0,.str s),(1,.int .u8 (c.toNat:Int)),(5,.i ((i+1:Nat):Int))] F'->K .normal F' H:=fun hn F' hF'=>hN _ _ ⟨i+1,hlt,hn,hF',(qz rfl).symm⟩ (by
   rw [Ma,hF'.2.2.2.1]
   simp only [Mc,Md,Mf]
   omega)
  clear hN hE
  have hmem:s.getD i 0∈s:=by rw [jx hlt];exact List.getElem_mem hlt
  have hnt:s.getD i 0≠c->c ∉ s.take (i+1):=fun hne hm=>by
   rw [List.take_add_one] at hm
   rcases List.mem_append.1 hm with hm|hm
   ·exact hn hm
   ·simp [hlt] at hm
    exact hne (by simp [hlt,hm])
  generalize hd:s.getD i 0=d at hmem hnt
  have heq:(((d.toNat:Nat):Int)=((c.toNat:Nat):Int))=(d=c):=by
   apply propext
   constructor
   ·intro h;exact UInt8.toNat_inj.1 (by omega)
   ·intro h;rw [h]
  simp+contextual only [hd,heq,qi (show i<=big by omega),↓lh,↓XP,qh]
  refine fun _=>⟨fun _=>⟨fun he=>hR _ _ ?_,fun he=>nx (hnt he) _ ⟨rfl,rfl,rfl,rfl,trivial⟩⟩,fun hge=>absurd (by omega) hge⟩
  simp+contextual only [↓XP,qo]
  exact hk _ (decide_eq_true (he▸hmem))
 ·have hik:i=s.length:=by omega
  subst hik
  clear hN
  rw [List.take_length] at hn
  simp+contextual only [↓lh,↓XP,qh]
  refine fun _=>hE _ _ _ ?_
  simp+contextual only [↓XP,qo,XW1]
  exact hk _ (decide_eq_false hn)
theorem xk {R:D->AH->Prop} (h:R (.bool (decide (zN o))) H):ACall Tryz.prog 107 [.agg o.d] H R:=by
 refine IF fun hf=>?_
 have hbig:=qj
 have hod:o.d= [.i o.k,.i o.on.o,.i o.on.s,.i o.on.i,.i o.to.o,.i o.to.s,.i o.to.i,.slc (qW o.ids),.i o.n,.str o.name,.str o.text,.i o.a,.i o.b]:=rfl
 have hk:∀b,decide (zN o)=b->R (.bool b) H:=fun b hb=>hb▸h
 have w1:o.ids.length<=big->IntKind.i64.wrap ((o.ids.length:Int) - 1)=(o.ids.length:Int) - 1:=fun h=>qm (by omega) (by omega)
 simp+contextual only [↓Cq,hod,qE,w1,↓Cq,↓XP,qh,XW1,qa]
 repeat' (first|apply And.intro|intro _)
 all_goals first
  |exact hk _ (decide_eq_decide.2 (by simp [zN,Qx,zi, *]))
  |exact hk _ (decide_eq_false (by simp [zN,Qx,zi, *];omega))
  |exact hk _ (decide_eq_false (by simp [zN,Qx,zi, *]))
  |skip
theorem uL {l:List Id3} {i:Nat} (h:i<l.length):(l.take (i+1)).Nodup↔(l.take i).Nodup∧l.getD i default ∉ l.take i:=by
 rw [List.take_add_one,show l[i]?.toList= [l.getD i default] by simp [h],List.nodup_append]
 constructor
 ·rintro ⟨h1,_,h3⟩
  exact ⟨h1,fun hm=>h3 _ hm _ (List.mem_singleton.2 rfl) rfl⟩
 ·rintro ⟨h1,h2⟩
  exact ⟨h1,by simp,fun a ha b hb e=>h2 (by rw [List.mem_singleton] at hb;rw [<-hb,<-e];exact ha)⟩
theorem Vt {o:OpP} {H:AH} {R:D->AH->Prop} (h:R (.bool (decide (Q4 o))) H):ACall Tryz.prog 108 [.agg o.d] H R:=by
 refine Hl fun hf=>?_
 have hbig:=qj
 have hod:o.d= [.i o.k,.i o.on.o,.i o.on.s,.i o.on.i,.i o.to.o,.i o.to.s,.i o.to.i,.slc (qW o.ids),.i o.n,.str o.name,.str o.text,.i o.a,.i o.b]:=rfl
 have hk:∀b,decide (Q4 o)=b->R (.bool b) H:=fun b hb=>hb▸h
 clear h
 simp+contextual only [↓VA,hod,↓XP,qo,qa]
 intro b1 h1
 simp only [<-hod]
 refine XW.loopK hmm (fun F H'=>∃(i:Nat),i<=o.ids.length∧(∀x∈o.ids.take i,yx x∧(o.k=16->x≠o.on))∧(o.ids.take i).Nodup∧Fr 67 [(1,.ptr b1 0),(3,.i i)] F∧((b1,AO.cells o.d)::H)=H') (fun F H=>match F.getD 3 .any with| .int _ n'=>o.ids.length - n'.toNat|_=>0) ⟨0,by omega,by simp,by simp,⟨rfl,rfl,rfl,trivial⟩,rfl⟩ ?_
 rintro _ _ ⟨i,hi,hv,hn,hF,rfl⟩ K hN hE hR
 obtain ⟨z,rfl⟩:=hF.fl rfl
 try dsimp only [fl,zz,qa,qb] at*
 clear hF
 by_cases hlt:i<o.ids.length
 ·have nx:(yx (o.ids.getD i default)∧(o.k=16->o.ids.getD i default≠o.on))->o.ids.getD i default ∉ o.ids.take i->∀F',Fr 67 [(1,.ptr b1 0),(3,.i ((i+1:Nat):Int))] F'->K .normal F' ((b1,AO.cells o.d)::H):=fun h1 h2 F' hF'=>hN _ _ ⟨i+1,hlt,fun x hx=>by
    rw [List.take_add_one] at hx
    rcases List.mem_append.1 hx with hx|hx
    ·exact hv x hx
    ·simp [hlt] at hx
     have:x=o.ids.getD i default:=by simp [hlt,hx]
     rw [this];exact h1,(uL hlt).2 ⟨hn,h2⟩,hF',(qz rfl).symm⟩ (by
   rw [Ma,hF'.2.2.1]
   simp only [Mc,Md,Mf]
   omega)
  clear hN hE
  have q1:=yj hlt
  have hm:o.ids.getD i default∈o.ids:=by rw [jx hlt];exact List.getElem_mem hlt
  generalize hxe:o.ids.getD i default=x at q1 nx hm
  have hxd:x.d= [.i x.o,.i x.s,.i x.i]:=rfl
  simp+contextual only [qE,hod,q1,hxd,↓VA,↓XP,qh,XW1,qb]
  refine fun _=>⟨fun _=>⟨_,fun _ _=>GC (x:=x) ⟨rfl,rfl⟩,?_⟩,fun hge=>absurd (by omega) hge⟩
  have hdc:∀y:Id3,(decide (x.o=y.o)&&(decide (x.s=y.s)&&decide (x.i=y.i)))=decide (x=y):=fun y=>by
   cases x;cases y;simp
  have inner:(yx x∧(o.k=16->x≠o.on))->∀F',Fr 67 [(1,.ptr b1 0),(3,.i i),(4,.i 0)] F'->XW Tryz.prog (vI 27) F' ((b1,AO.cells o.d)::H) (y5 2 (y5 1 (VL Tryz.prog (vI 43) K))):=fun hg F' hF'=>by
   refine XW.loopK hmm (fun F H'=>∃(k:Nat),k<=i∧x ∉ o.ids.take k∧Fr 67 [(1,.ptr b1 0),(3,.i i),(4,.i k)] F∧((b1,AO.cells o.d)::H)=H') (fun F H=>match F.getD 4 .any with| .int _ n'=>i - n'.toNat|_=>0) ⟨0,by omega,by simp,hF',rfl⟩ ?_
   rintro _ _ ⟨k,hki,hnk,hF,rfl⟩ K2 hN2 hE2 hR2
   obtain ⟨z2,rfl⟩:∃z2:Nat->D,_=(let z:=z2; [z 0,.ptr b1 0,z 2,.i i,.i k,z 5,z 6,z 7,z 8,z 9,z 10,z 11,z 12,z 13,z 14,z 15,z 16,z 17,z 18,z 19,z 20,z 21,z 22,z 23,z 24,z 25,z 26,z 27,z 28,z 29,z 30,z 31,z 32,z 33,z 34,z 35,z 36,z 37,z 38,z 39,z 40,z 41,z 42,z 43,z 44,z 45,z 46,z 47,z 48,z 49,z 50,z 51,z 52,z 53,z 54,z 55,z 56,z 57,z 58,z 59,z 60,z 61,z 62,z 63,z 64,z 65,z 66]):=hF.lit
   clear hF hF'
   by_cases hlk:k<i
   ·have nx2:x≠o.ids.getD k default->∀F',Fr 67 [(1,.ptr b1 0),(3,.i i),(4,.i ((k+1:Nat):Int))] F'->K2 .normal F' ((b1,AO.cells o.d)::H):=fun h1 F' hF'=>hN2 _ _ ⟨k+1,hlk,fun hx=>by
      rw [List.take_add_one] at hx
      rcases List.mem_append.1 hx with hx|hx
      ·exact hnk hx
      ·simp [show k<o.ids.length by omega] at hx
       exact h1 (by simp [show k<o.ids.length by omega,hx]),hF',(qz rfl).symm⟩ (by
     rw [Ma,hF'.2.2.2.1]
     simp only [Mc,Md,Mf]
     omega)
    have q2:=yj (l:=o.ids) (i:=k) (by omega)
    have hny:o.ids.getD k default=x->¬Q4 o:=fun he ho=>by
     have h2:=(ho.2.1).sublist (List.take_sublist (i+1) o.ids)
     exact ((uL hlt).1 h2).2 (by
      rw [hxe,<-he,jx (show k<o.ids.length by omega)]
      exact List.mem_take_iff_getElem.2 ⟨k,by omega,rfl⟩)
    generalize o.ids.getD k default=y at nx2 q2 hny
    have hyd:y.d= [.i y.o,.i y.s,.i y.i]:=rfl
    have hdy:(decide (y.o=x.o)&&(decide (y.s=x.s)&&decide (y.i=x.i)))=decide (y=x):=by
     cases x;cases y;simp
    have hlt':(k:Int)<(i:Int):=by omega
    by_cases hyx:y=x
    ·simp+contextual only [qE,hod,q1,q2,hxd,hyx,hlt',↓VA,↓XP,qh,XW1,qb]
     refine fun _=>⟨by omega,by omega,hR2 _ _ ?_⟩
     simp+contextual only [↓XP]
     refine hR _ _ ?_
     simp+contextual only [↓XP,qo]
     exact hk _ (decide_eq_false (hny hyx))
    ·simp+contextual only [qE,hod,q1,q2,hxd,hyd,hdy,hyx,hlt',qi (show k<=big by omega),↓VA,↓XP,qh,XW1,qb]
     simp only [<-hod]
     exact fun _=>⟨by omega,by omega,nx2 (Ne.symm hyx) _ ⟨rfl,rfl,rfl,rfl,trivial⟩⟩
   ·have hik:k=i:=by omega
    subst hik
    clear hN2
    simp+contextual only [hod,↓VA,↓XP,qo]
    refine hE2 _ _ _ ?_
    simp+contextual only [qi (show k<=big by omega),↓VA,↓XP,qo,XW1,qf]
    simp only [<-hod]
    exact nx hg hnk _ ⟨rfl,rfl,rfl,trivial⟩
  by_cases hok:yx x
  ·by_cases hk16:o.k=16
   ·have hk16':(o.k=16)=True:=eq_true hk16
    by_cases hxo:x=o.on
    ·have hxo':(x=o.on)=True:=eq_true hxo
     simp+contextual only [qE,q1,hxd,hok,hk16',hdc,hxo',↓XP,qh,XW1,qb,qe]
     refine fun _ _=>⟨by omega,hR _ _ ?_⟩
     simp+contextual only [↓XP,qo]
     exact hk _ (decide_eq_false (fun hh=>(hh.1 x hm).2 hk16 hxo))
    ·simp+contextual only [qE,q1,hxd,hok,hk16',hdc,hxo,↓XP,qh,XW1,qb,qe]
     simp only [<-hod]
     exact fun _ _=>⟨by omega,inner ⟨hok,fun _=>hxo⟩ _ ⟨rfl,rfl,rfl,rfl,trivial⟩⟩
   ·have hk16':(o.k=16)=False:=eq_false hk16
    simp+contextual only [hok,hk16',↓XP,qh,XW1]
    simp only [<-hod]
    exact fun _=>inner ⟨hok,fun h=>(hk16 h).elim⟩ _ ⟨rfl,rfl,rfl,rfl,trivial⟩
  ·simp+contextual only [hok,↓XP,qo,XW1]
   refine hR _ _ ?_
   simp+contextual only [↓XP,qo]
   exact hk _ (decide_eq_false (fun hh=>hok (hh.1 x hm).1))
 ·have hik:i=o.ids.length:=by omega
  subst hik
  clear hN
  rw [List.take_length] at hn hv
  simp+contextual only [qE,hod,↓VA,↓XP,qh,XW1]
  refine fun _=>hE _ _ _ ?_
  have hk18:∀{c:Int},(o.k=c)=(o.k=c):=rfl
  simp+contextual only [qE,↓VA,↓XP,qh,XW1]
  have c1:((o.ids.length:Int)=1)=(o.ids.length=1):=by apply propext;omega
  have c2:(2<=(o.ids.length:Int))=(2<=o.ids.length):=by apply propext;omega
  have c3:((o.ids.length:Int)<=4)=(o.ids.length<=4):=by apply propext;omega
  refine fun _=>⟨fun e _=>?_,fun e _=>⟨fun e2=>?_,fun e2=>?_⟩⟩
  ·exact hk _ (decide_eq_decide.2 ⟨fun h=>by have:=h.2.2.1 e;omega,fun h=>⟨hv,hn,fun _=>by omega,fun h=>(h e).elim⟩⟩)
  ·exact hk _ (decide_eq_decide.2 ⟨fun h=>by have:=h.2.2.2 e;omega,fun h=>⟨hv,hn,fun h=>(e h).elim,fun _=>by omega⟩⟩)
  ·exact hk _ (decide_eq_false (fun h=>by have:=h.2.2.2 e;omega))
def rN (o:OpP):Prop:=uses o.k≠ []∧(79∈uses o.k->yx o.on)∧(79 ∉ uses o.k->o.on=QJ)∧(84∈uses o.k->yx o.to)∧(84 ∉ uses o.k->o.to=QJ)
def lH (o:OpP):Prop:=(78∈uses o.k->zN o)∧(78 ∉ uses o.k->o.n=0)∧(73∈uses o.k->Q4 o)∧(73 ∉ uses o.k->o.ids= [])
def ff (o:OpP):Prop:=(65∈uses o.k->1<=o.name.length∧o.name.length<=16)∧(65 ∉ uses o.k->o.name= [])∧(88∈uses o.k->o.text.length<=1024)∧(88 ∉ uses o.k->o.text= [])
def bw (o:OpP):Prop:=(83∈uses o.k->yf o.a o.b)∧(83 ∉ uses o.k->o.a=0∧o.b=0)
def YS (o:OpP):Prop:=o.k=17->o.on≠o.to
instance (o:OpP):Decidable (rN o):=by unfold rN;exact inferInstance
instance (o:OpP):Decidable (lH o):=by unfold lH;exact inferInstance
instance (o:OpP):Decidable (ff o):=by unfold ff;exact inferInstance
instance (o:OpP):Decidable (bw o):=by unfold bw;exact inferInstance
instance (o:OpP):Decidable (YS o):=by unfold YS;exact inferInstance
def YJ (o:OpP):Prop:=rN o∧lH o∧ff o∧bw o∧YS o
instance (o:OpP):Decidable (YJ o):=by unfold YJ;exact inferInstance
theorem zZ {x y:Id3}:(decide (x.o=y.o)&&(decide (x.s=y.s)&&decide (x.i=y.i)))=decide (x=y):=by
 cases x;cases y;simp
theorem vS {x:Id3}:(decide (x.o=0)&&(decide (x.s=0)&&decide (x.i=0)))=decide (x=QJ):=zZ (y:=QJ)
theorem ZE {R:D->AH->Prop} (h:R (.bool (decide ((79:UInt8)∈s))) H):ACall Tryz.prog 105 [.str s,.int .u8 79] H R:=gj (c:=79) h
theorem Qs {R:D->AH->Prop} (h:R (.bool (decide ((84:UInt8)∈s))) H):ACall Tryz.prog 105 [.str s,.int .u8 84] H R:=gj (c:=84) h
theorem Z7 {R:D->AH->Prop} (h:R (.bool (decide ((78:UInt8)∈s))) H):ACall Tryz.prog 105 [.str s,.int .u8 78] H R:=gj (c:=78) h
theorem Qo {R:D->AH->Prop} (h:R (.bool (decide ((73:UInt8)∈s))) H):ACall Tryz.prog 105 [.str s,.int .u8 73] H R:=gj (c:=73) h
theorem ZD {R:D->AH->Prop} (h:R (.bool (decide ((65:UInt8)∈s))) H):ACall Tryz.prog 105 [.str s,.int .u8 65] H R:=gj (c:=65) h
theorem QC {R:D->AH->Prop} (h:R (.bool (decide ((88:UInt8)∈s))) H):ACall Tryz.prog 105 [.str s,.int .u8 88] H R:=gj (c:=88) h
theorem ZR {R:D->AH->Prop} (h:R (.bool (decide ((83:UInt8)∈s))) H):ACall Tryz.prog 105 [.str s,.int .u8 83] H R:=gj (c:=83) h
theorem v_0 {o:OpP} {b1 b4:Nat} {F:List D} {H:AH} {R:D->AH->Prop} (n14:b1≠b4) (hF:Fr 169 [(1,.ptr b1 0),(3,.str (uses o.k)),(4,.ptr b4 0)] F) (h:R (.bool (decide (YS o))) H):xcode Tryz.prog (Ku 38) F ((b4,AO.cells [.i 0,.i 0,.i 0])::(b1,AO.cells o.d)::H) (jV Tryz.prog [.tmp 2] H.length R):=by
 have hod:o.d= [.i o.k,.i o.on.o,.i o.on.s,.i o.on.i,.i o.to.o,.i o.to.s,.i o.to.i,.slc (qW o.ids),.i o.n,.str o.name,.str o.text,.i o.a,.i o.b]:=rfl
 have hk:∀b,decide (YS o)=b->R (.bool b) H:=fun b hb=>hb▸h
 obtain ⟨z,rfl⟩:=hF.fl rfl
 try dsimp only [fl,zz,qa,qb] at*
 simp+contextual only [hod,qg,n14,zZ,↓U67,↓XP,qh,XW1,qb,qe]
 repeat' (first|apply And.intro|intro _)
 ·exact hk _ (by simp [YS, *])
 ·exact hk _ (by simp [YS, *])
theorem v_1 {R:D->AH->Prop} (n14:b1≠b4) (hF:Fr 169 [(1,.ptr b1 0),(3,.str (uses o.k)),(4,.ptr b4 0)] F) (h:R (.bool (decide (bw o∧YS o))) H):xcode Tryz.prog (Ku 30) F ((b4,AO.cells [.i 0,.i 0,.i 0])::(b1,AO.cells o.d)::H) (jV Tryz.prog [.tmp 2] H.length R):=by
 have hod:o.d= [.i o.k,.i o.on.o,.i o.on.s,.i o.on.i,.i o.to.o,.i o.to.s,.i o.to.i,.slc (qW o.ids),.i o.n,.str o.name,.str o.text,.i o.a,.i o.b]:=rfl
 have hk:∀b,decide (bw o∧YS o)=b->R (.bool b) H:=fun b hb=>hb▸h
 have go:bw o->∀F',Fr 169 [(1,.ptr b1 0),(3,.str (uses o.k)),(4,.ptr b4 0)] F'->xcode Tryz.prog (Ku 38) F' ((b4,AO.cells [.i 0,.i 0,.i 0])::(b1,AO.cells o.d)::H) (jV Tryz.prog [.tmp 2] H.length R):=fun h4 F' hF'=>v_0 n14 hF' (hk _ (by simp only [h4,true_and]))
 obtain ⟨z,rfl⟩:=hF.fl rfl
 try dsimp only [fl,zz,qa,qb] at*
 clear hF h
 simp+contextual only [↓U67.1.2.1,hod,↓XP,qo]
 intros
 refine ZR ?_
 by_cases hS:(83:UInt8)∈uses o.k
 ·skip
  simp+contextual only [qg,n14,hS,↓XP,qh,XW1,qb]
  intros
  refine lq (a:=o.a) (b:=o.b) ?_
  by_cases oS:yf o.a o.b
  ·skip
   simp+contextual only [oS,↓XP,qo,XW1]
   intros
   refine ZR ?_
   simp+contextual only [hS,↓XP,qo,XW1]
   intros
   simp only [<-hod]
   exact go ⟨fun _=>oS,fun hh=>(hh hS).elim⟩ _ ⟨rfl,rfl,rfl,rfl,trivial⟩
  ·skip
   simp+contextual only [oS,↓XP,qo,XW1]
   intros
   exact hk _ (decide_eq_false (fun hh=>oS (hh.1.1 hS)))
 ·skip
  simp+contextual only [hS,↓XP,qo,XW1]
  intros
  refine ZR ?_
  by_cases bS:o.a=0∧o.b=0
  ·skip
   simp+contextual only [qg,n14,hS,eq_true bS.1,eq_true bS.2,↓XP,qh,XW1,qb]
   intros
   simp only [<-hod]
   exact go ⟨fun hh=>(hS hh).elim,fun _=>bS⟩ _ ⟨rfl,rfl,rfl,rfl,trivial⟩
  ·skip
   by_cases sS:o.a=0
   ·skip
    simp+contextual only [qg,n14,hS,eq_true sS,(eq_false (fun h=>bS ⟨sS,h⟩):(o.b=0)=False),↓XP,qh,XW1,qb]
    intros
    exact hk _ (decide_eq_false (fun hh=>bS (hh.1.2 hS)))
   ·skip
    simp+contextual only [qg,n14,hS,eq_false sS,↓XP,qh,XW1]
    intros
    exact hk _ (decide_eq_false (fun hh=>bS (hh.1.2 hS)))
theorem v_2 {R:D->AH->Prop} (n14:b1≠b4) (hF:Fr 169 [(1,.ptr b1 0),(3,.str (uses o.k)),(4,.ptr b4 0)] F) (h:R (.bool (decide (ff o∧bw o∧YS o))) H):xcode Tryz.prog (Ku 22) F ((b4,AO.cells [.i 0,.i 0,.i 0])::(b1,AO.cells o.d)::H) (jV Tryz.prog [.tmp 2] H.length R):=by
 have hod:o.d= [.i o.k,.i o.on.o,.i o.on.s,.i o.on.i,.i o.to.o,.i o.to.s,.i o.to.i,.slc (qW o.ids),.i o.n,.str o.name,.str o.text,.i o.a,.i o.b]:=rfl
 have hk:∀b,decide (ff o∧bw o∧YS o)=b->R (.bool b) H:=fun b hb=>hb▸h
 have go:ff o->∀F',Fr 169 [(1,.ptr b1 0),(3,.str (uses o.k)),(4,.ptr b4 0)] F'->xcode Tryz.prog (Ku 30) F' ((b4,AO.cells [.i 0,.i 0,.i 0])::(b1,AO.cells o.d)::H) (jV Tryz.prog [.tmp 2] H.length R):=fun h4 F' hF'=>v_1 n14 hF' (hk _ (by simp only [h4,true_and]))
 obtain ⟨z,rfl⟩:=hF.fl rfl
 try dsimp only [fl,zz,qa,qb] at*
 clear hF h
 simp+contextual only [↓U67.1.2.2,hod,↓XP,qo]
 intros
 refine ZD ?_
 by_cases hA:(65:UInt8)∈uses o.k
 ·skip
  by_cases oA:1<=o.name.length∧o.name.length<=16
  ·skip
   simp+contextual only [qg,n14,hA,(eq_false (by omega):((o.name.length:Int)<1)=False),(eq_false (by omega):(16<(o.name.length:Int))=False),↓XP,qh,XW1]
   intros
   refine ZD ?_
   simp+contextual only [hA,↓XP,qo,XW1]
   intros
   refine QC ?_
   by_cases hX:(88:UInt8)∈uses o.k
   ·skip
    by_cases oX:o.text.length<=1024
    ·skip
     simp+contextual only [qg,n14,hX,(eq_false (by omega):(1024<(o.text.length:Int))=False),↓XP,qh,XW1]
     intros
     refine QC ?_
     simp+contextual only [hX,↓XP,qo,XW1]
     intros
     simp only [<-hod]
     exact go ⟨fun _=>oA,fun hh=>(hh hA).elim,fun _=>oX,fun hh=>(hh hX).elim⟩ _ ⟨rfl,rfl,rfl,rfl,trivial⟩
    ·skip
     simp+contextual only [qg,n14,hX,(eq_true (by omega):(1024<(o.text.length:Int))=True),↓XP,qh,XW1]
     intros
     exact hk _ (decide_eq_false (fun hh=>oX (hh.1.2.2.1 hX)))
   ·skip
    simp+contextual only [hX,↓XP,qo,XW1]
    intros
    refine QC ?_
    by_cases bX:o.text= []
    ·skip
     simp+contextual only [qg,n14,hX,eq_true bX,↓XP,qh,XW1]
     intros
     simp only [<-hod]
     exact go ⟨fun _=>oA,fun hh=>(hh hA).elim,fun hh=>(hX hh).elim,fun _=>bX⟩ _ ⟨rfl,rfl,rfl,rfl,trivial⟩
    ·skip
     simp+contextual only [qg,n14,hX,eq_false bX,↓XP,qh,XW1]
     intros
     exact hk _ (decide_eq_false (fun hh=>bX (hh.1.2.2.2 hX)))
  ·skip
   by_cases sA:o.name.length<1
   ·skip
    simp+contextual only [qg,n14,hA,(eq_true (by omega):((o.name.length:Int)<1)=True),↓XP,qh,XW1]
    intros
    exact hk _ (decide_eq_false (fun hh=>oA (hh.1.1 hA)))
   ·skip
    simp+contextual only [qg,n14,hA,(eq_false (by omega):((o.name.length:Int)<1)=False),(eq_true (by omega):(16<(o.name.length:Int))=True),↓XP,qh,XW1]
    intros
    exact hk _ (decide_eq_false (fun hh=>oA (hh.1.1 hA)))
 ·skip
  simp+contextual only [hA,↓XP,qo,XW1]
  intros
  refine ZD ?_
  by_cases bA:o.name= []
  ·skip
   simp+contextual only [qg,n14,hA,eq_true bA,↓XP,qh,XW1]
   intros
   refine QC ?_
   by_cases hX:(88:UInt8)∈uses o.k
   ·skip
    by_cases oX:o.text.length<=1024
    ·skip
     simp+contextual only [qg,n14,hX,(eq_false (by omega):(1024<(o.text.length:Int))=False),↓XP,qh,XW1]
     intros
     refine QC ?_
     simp+contextual only [hX,↓XP,qo,XW1]
     intros
     simp only [<-hod]
     exact go ⟨fun hh=>(hA hh).elim,fun _=>bA,fun _=>oX,fun hh=>(hh hX).elim⟩ _ ⟨rfl,rfl,rfl,rfl,trivial⟩
    ·skip
     simp+contextual only [qg,n14,hX,(eq_true (by omega):(1024<(o.text.length:Int))=True),↓XP,qh,XW1]
     intros
     exact hk _ (decide_eq_false (fun hh=>oX (hh.1.2.2.1 hX)))
   ·skip
    simp+contextual only [hX,↓XP,qo,XW1]
    intros
    refine QC ?_
    by_cases bX:o.text= []
    ·skip
     simp+contextual only [qg,n14,hX,eq_true bX,↓XP,qh,XW1]
     intros
     simp only [<-hod]
     exact go ⟨fun hh=>(hA hh).elim,fun _=>bA,fun hh=>(hX hh).elim,fun _=>bX⟩ _ ⟨rfl,rfl,rfl,rfl,trivial⟩
    ·skip
     simp+contextual only [qg,n14,hX,eq_false bX,↓XP,qh,XW1]
     intros
     exact hk _ (decide_eq_false (fun hh=>bX (hh.1.2.2.2 hX)))
  ·skip
   simp+contextual only [qg,n14,hA,eq_false bA,↓XP,qh,XW1]
   intros
   exact hk _ (decide_eq_false (fun hh=>bA (hh.1.2.1 hA)))
theorem v_3 {R:D->AH->Prop} (n14:b1≠b4) (hF:Fr 169 [(1,.ptr b1 0),(3,.str (uses o.k)),(4,.ptr b4 0)] F) (h:R (.bool (decide (lH o∧ff o∧bw o∧YS o))) H):xcode Tryz.prog (Ku 14) F ((b4,AO.cells [.i 0,.i 0,.i 0])::(b1,AO.cells o.d)::H) (jV Tryz.prog [.tmp 2] H.length R):=by
 have hod:o.d= [.i o.k,.i o.on.o,.i o.on.s,.i o.on.i,.i o.to.o,.i o.to.s,.i o.to.i,.slc (qW o.ids),.i o.n,.str o.name,.str o.text,.i o.a,.i o.b]:=rfl
 have hk:∀b,decide (lH o∧ff o∧bw o∧YS o)=b->R (.bool b) H:=fun b hb=>hb▸h
 have go:lH o->∀F',Fr 169 [(1,.ptr b1 0),(3,.str (uses o.k)),(4,.ptr b4 0)] F'->xcode Tryz.prog (Ku 22) F' ((b4,AO.cells [.i 0,.i 0,.i 0])::(b1,AO.cells o.d)::H) (jV Tryz.prog [.tmp 2] H.length R):=fun h4 F' hF'=>v_2 n14 hF' (hk _ (by simp only [h4,true_and]))
 obtain ⟨z,rfl⟩:=hF.fl rfl
 try dsimp only [fl,zz,qa,qb] at*
 clear hF h
 simp+contextual only [↓U67.2.1.1,hod,↓XP,qo]
 intros
 refine Z7 ?_
 by_cases hN:(78:UInt8)∈uses o.k
 ·skip
  simp+contextual only [qg,n14,hN,↓XP,qh,XW1,qb]
  intros
  refine xk (o:=o) ?_
  by_cases oN:zN o
  ·skip
   simp+contextual only [oN,↓XP,qo,XW1]
   intros
   refine Z7 ?_
   simp+contextual only [hN,↓XP,qo,XW1]
   intros
   refine Qo ?_
   by_cases hI:(73:UInt8)∈uses o.k
   ·skip
    simp+contextual only [qg,n14,hI,↓XP,qh,XW1,qb]
    intros
    refine Vt (o:=o) ?_
    by_cases oI:Q4 o
    ·skip
     simp+contextual only [oI,↓XP,qo,XW1]
     intros
     refine Qo ?_
     simp+contextual only [hI,↓XP,qo,XW1]
     intros
     simp only [<-hod]
     exact go ⟨fun _=>oN,fun hh=>(hh hN).elim,fun _=>oI,fun hh=>(hh hI).elim⟩ _ ⟨rfl,rfl,rfl,rfl,trivial⟩
    ·skip
     simp+contextual only [oI,↓XP,qo,XW1]
     intros
     exact hk _ (decide_eq_false (fun hh=>oI (hh.1.2.2.1 hI)))
   ·skip
    simp+contextual only [hI,↓XP,qo,XW1]
    intros
    refine Qo ?_
    by_cases bI:o.ids= []
    ·skip
     simp+contextual only [qE,qg,n14,hI,(eq_false (by simp [bI]):(0<(o.ids.length:Int))=False),↓XP,qh,XW1]
     intros
     simp only [<-hod]
     exact go ⟨fun _=>oN,fun hh=>(hh hN).elim,fun hh=>(hI hh).elim,fun _=>bI⟩ _ ⟨rfl,rfl,rfl,rfl,trivial⟩
    ·skip
     simp+contextual only [qE,qg,n14,hI,(eq_true (by have:=List.length_pos_iff.2 bI;omega):(0<(o.ids.length:Int))=True),↓XP,qh,XW1]
     intros
     exact hk _ (decide_eq_false (fun hh=>bI (hh.1.2.2.2 hI)))
  ·skip
   simp+contextual only [oN,↓XP,qo,XW1]
   intros
   exact hk _ (decide_eq_false (fun hh=>oN (hh.1.1 hN)))
 ·skip
  simp+contextual only [hN,↓XP,qo,XW1]
  intros
  refine Z7 ?_
  by_cases bN:o.n=0
  ·skip
   simp+contextual only [qg,n14,hN,eq_true bN,↓XP,qh,XW1]
   intros
   refine Qo ?_
   by_cases hI:(73:UInt8)∈uses o.k
   ·skip
    simp+contextual only [qg,n14,hI,↓XP,qh,XW1,qb]
    intros
    refine Vt (o:=o) ?_
    by_cases oI:Q4 o
    ·skip
     simp+contextual only [oI,↓XP,qo,XW1]
     intros
     refine Qo ?_
     simp+contextual only [hI,↓XP,qo,XW1]
     intros
     simp only [<-hod]
     exact go ⟨fun hh=>(hN hh).elim,fun _=>bN,fun _=>oI,fun hh=>(hh hI).elim⟩ _ ⟨rfl,rfl,rfl,rfl,trivial⟩
    ·skip
     simp+contextual only [oI,↓XP,qo,XW1]
     intros
     exact hk _ (decide_eq_false (fun hh=>oI (hh.1.2.2.1 hI)))
   ·skip
    simp+contextual only [hI,↓XP,qo,XW1]
    intros
    refine Qo ?_
    by_cases bI:o.ids= []
    ·skip
     simp+contextual only [qE,qg,n14,hI,(eq_false (by simp [bI]):(0<(o.ids.length:Int))=False),↓XP,qh,XW1]
     intros
     simp only [<-hod]
     exact go ⟨fun hh=>(hN hh).elim,fun _=>bN,fun hh=>(hI hh).elim,fun _=>bI⟩ _ ⟨rfl,rfl,rfl,rfl,trivial⟩
    ·skip
     simp+contextual only [qE,qg,n14,hI,(eq_true (by have:=List.length_pos_iff.2 bI;omega):(0<(o.ids.length:Int))=True),↓XP,qh,XW1]
     intros
     exact hk _ (decide_eq_false (fun hh=>bI (hh.1.2.2.2 hI)))
  ·skip
   simp+contextual only [qg,n14,hN,eq_false bN,↓XP,qh,XW1]
   intros
   exact hk _ (decide_eq_false (fun hh=>bN (hh.1.2.1 hN)))
theorem v_4 {R:D->AH->Prop} (n14:b1≠b4) (hF:Fr 169 [(1,.ptr b1 0),(3,.str (uses o.k)),(4,.ptr b4 0)] F) (h:R (.bool (decide (rN o∧lH o∧ff o∧bw o∧YS o))) H):xcode Tryz.prog (Ku 6) F ((b4,AO.cells [.i 0,.i 0,.i 0])::(b1,AO.cells o.d)::H) (jV Tryz.prog [.tmp 2] H.length R):=by
 have hod:o.d= [.i o.k,.i o.on.o,.i o.on.s,.i o.on.i,.i o.to.o,.i o.to.s,.i o.to.i,.slc (qW o.ids),.i o.n,.str o.name,.str o.text,.i o.a,.i o.b]:=rfl
 have hk:∀b,decide (rN o∧lH o∧ff o∧bw o∧YS o)=b->R (.bool b) H:=fun b hb=>hb▸h
 have go:rN o->∀F',Fr 169 [(1,.ptr b1 0),(3,.str (uses o.k)),(4,.ptr b4 0)] F'->xcode Tryz.prog (Ku 14) F' ((b4,AO.cells [.i 0,.i 0,.i 0])::(b1,AO.cells o.d)::H) (jV Tryz.prog [.tmp 2] H.length R):=fun h4 F' hF'=>v_3 n14 hF' (hk _ (by simp only [h4,true_and]))
 obtain ⟨z,rfl⟩:=hF.fl rfl
 try dsimp only [fl,zz,qa,qb] at*
 clear hF h
 by_cases hu:uses o.k= []
 ·skip
  simp+contextual only [↓U67.2.1.2,hod,eq_true hu,↓XP,qo]
  intros
  exact hk _ (decide_eq_false (fun hh=>hh.1.1 hu))
 ·skip
  simp+contextual only [↓U67.2.1.2,hod,eq_false hu,↓XP,qo]
  intros
  intros
  refine ZE ?_
  by_cases hO:(79:UInt8)∈uses o.k
  ·skip
   simp+contextual only [qg,n14,hO,↓XP,qh,XW1,qb,qe]
   intros
   refine GC (x:=o.on) ?_
   by_cases oO:yx o.on
   ·skip
    simp+contextual only [oO,↓XP,qo,XW1]
    intros
    refine ZE ?_
    simp+contextual only [hO,↓XP,qo,XW1]
    intros
    refine Qs ?_
    by_cases hT:(84:UInt8)∈uses o.k
    ·skip
     simp+contextual only [qg,n14,hT,↓XP,qh,XW1,qb,qe]
     intros
     refine GC (x:=o.to) ?_
     by_cases oT:yx o.to
     ·skip
      simp+contextual only [oT,↓XP,qo,XW1]
      intros
      refine Qs ?_
      simp+contextual only [hT,↓XP,qo,XW1]
      intros
      simp only [<-hod]
      exact go ⟨hu,fun _=>oO,fun hh=>(hh hO).elim,fun _=>oT,fun hh=>(hh hT).elim⟩ _ ⟨rfl,rfl,rfl,rfl,trivial⟩
     ·skip
      simp+contextual only [oT,↓XP,qo,XW1]
      intros
      exact hk _ (decide_eq_false (fun hh=>oT (hh.1.2.2.2.1 hT)))
    ·skip
     simp+contextual only [hT,↓XP,qo,XW1]
     intros
     refine Qs ?_
     by_cases bT:o.to=QJ
     ·skip
      simp+contextual only [qg,n14,vS,hT,eq_true bT,↓XP,qh,XW1,qb,qe]
      intros
      simp only [<-hod]
      exact go ⟨hu,fun _=>oO,fun hh=>(hh hO).elim,fun hh=>(hT hh).elim,fun _=>bT⟩ _ ⟨rfl,rfl,rfl,rfl,trivial⟩
     ·skip
      simp+contextual only [qg,n14,vS,hT,eq_false bT,↓XP,qh,XW1,qb,qe]
      intros
      exact hk _ (decide_eq_false (fun hh=>bT (hh.1.2.2.2.2 hT)))
   ·skip
    simp+contextual only [oO,↓XP,qo,XW1]
    intros
    exact hk _ (decide_eq_false (fun hh=>oO (hh.1.2.1 hO)))
  ·skip
   simp+contextual only [hO,↓XP,qo,XW1]
   intros
   refine ZE ?_
   by_cases bO:o.on=QJ
   ·skip
    simp+contextual only [qg,n14,vS,hO,eq_true bO,↓XP,qh,XW1,qb,qe]
    intros
    refine Qs ?_
    by_cases hT:(84:UInt8)∈uses o.k
    ·skip
     simp+contextual only [qg,n14,hT,↓XP,qh,XW1,qb,qe]
     intros
     refine GC (x:=o.to) ?_
     by_cases oT:yx o.to
     ·skip
      simp+contextual only [oT,↓XP,qo,XW1]
      intros
      refine Qs ?_
      simp+contextual only [hT,↓XP,qo,XW1]
      intros
      simp only [<-hod]
      exact go ⟨hu,fun hh=>(hO hh).elim,fun _=>bO,fun _=>oT,fun hh=>(hh hT).elim⟩ _ ⟨rfl,rfl,rfl,rfl,trivial⟩
     ·skip
      simp+contextual only [oT,↓XP,qo,XW1]
      intros
      exact hk _ (decide_eq_false (fun hh=>oT (hh.1.2.2.2.1 hT)))
    ·skip
     simp+contextual only [hT,↓XP,qo,XW1]
     intros
     refine Qs ?_
     by_cases bT:o.to=QJ
     ·skip
      simp+contextual only [qg,n14,vS,hT,eq_true bT,↓XP,qh,XW1,qb,qe]
      intros
      simp only [<-hod]
      exact go ⟨hu,fun hh=>(hO hh).elim,fun _=>bO,fun hh=>(hT hh).elim,fun _=>bT⟩ _ ⟨rfl,rfl,rfl,rfl,trivial⟩
     ·skip
      simp+contextual only [qg,n14,vS,hT,eq_false bT,↓XP,qh,XW1,qb,qe]
      intros
      exact hk _ (decide_eq_false (fun hh=>bT (hh.1.2.2.2.2 hT)))
   ·skip
    simp+contextual only [qg,n14,vS,hO,eq_false bO,↓XP,qh,XW1,qb,qe]
    intros
    exact hk _ (decide_eq_false (fun hh=>bO (hh.1.2.2.1 hO)))
theorem A6 {R:D->AH->Prop} (h:R (.bool (decide (YJ o))) H):ACall Tryz.prog 67 [.agg o.d] H R:=by
 refine b67 fun hf=>?_
 have hod:o.d= [.i o.k,.i o.on.o,.i o.on.s,.i o.on.i,.i o.to.o,.i o.to.s,.i o.to.i,.slc (qW o.ids),.i o.n,.str o.name,.str o.text,.i o.a,.i o.b]:=rfl
 simp+contextual only [↓U67,↓U67.2.2.1,hod,↓XP,qh,qa]
 intro b1 h1 _
 refine iz ?_
 simp+contextual only [↓XP,qh,XW1,qb]
 intro _ b4 hb
 obtain ⟨n14,h4⟩:=hb
 simp only [<-hod]
 exact v_4 n14 ⟨rfl,rfl,rfl,rfl,trivial⟩ h
end Go.Proofs.YtgopigkdcmhbbaaGreatDoor
end
section
namespace Go.Proofs.YtgopigkdcmhbbaaGreatDoor
open Go Go.Aw
def yK (p:Pt):Prop:=0<=p.o∧p.o<=7∧1<=p.s∧p.s<=16∧1<=p.day∧p.day<=1048576
instance (p:Pt):Decidable (yK p):=by unfold yK;exact inferInstance
def yv (p:Pt) (i:Nat):Prop:=0<=(p.needs.getD i default).o∧(p.needs.getD i default).o<=7∧(p.needs.getD i default).o≠p.o∧1<=(p.needs.getD i default).s∧(p.needs.getD i default).s<=16∧(0<i->(p.needs.getD (i - 1) default).o<(p.needs.getD i default).o)
def vL (p:Pt):Prop:=∀i,i<p.needs.length->yv p i
def zJ (p:Pt):Prop:=∀o∈p.ops,YJ o
def bare (p:Pt):Pt:={p with sl:= []}
open Classical in
noncomputable def jy (p:Pt):Int:=
 if ¬yK p then 5 else if 8<p.needs.length∨16<p.ops.length then 4 else if p.ops= [] then 1 else if ¬vL p then 1 else if ¬zJ p then 1
 else if 6800<(jO (bare p)).length then 4 else 0
theorem VK (h:Fit p):Fit (bare p):=⟨h.ops,h.needs,h.ids,h.name,h.text,by simp [bare]⟩
theorem cR {R:D->AH->Prop} (hp:Fit p) (h:R (.i (jy p)) H):ACall Tryz.prog 32 [.agg p.d] H R:=by
 refine b32 fun hf=>?_
 have hbig:=qj
 have hd:p.d= [.i p.o,.i p.s,.i p.day,.slc (qt p.needs),.slc (qu p.ops),.str p.sl]:=rfl
 have hk:∀b,jy p=b->R (.i b) H:=fun b hb=>hb▸h
 clear h
 by_cases hh:¬yK p
 ·have h5:=hk 5 (by unfold jy;rw [if_pos hh])
  simp+contextual only [↓Vl,hd,j4,qI,↓Vl,↓XP,qh,XW1,qa]
  intro b1 h1 _
  repeat' (first|apply And.intro|intro _)
  all_goals first
   |exact h5
   |(exfalso;unfold yK at hh;omega)
 ·obtain ⟨e1,e2,e3,e4,e5,e6⟩:=Classical.not_not.1 hh
  clear hh
  have hh:yK p:=⟨e1,e2,e3,e4,e5,e6⟩
  simp+contextual only [↓Vl,hd,j4,qI,(eq_false (by omega):(p.o<0)=False),(eq_false (by omega):(7<p.o)=False),(eq_false (by omega):(p.s<1)=False),(eq_false (by omega):(16<p.s)=False),(eq_false (by omega):(p.day<1)=False),(eq_false (by omega):(1048576<p.day)=False),↓Vl,↓XP,qh,XW1,qa]
  intro b1 h1
  intros
  have k4:8<p.needs.length∨16<p.ops.length->R (.i 4) H:=fun hl=>hk 4 (by unfold jy;rw [if_neg (fun h=>h hh),if_pos hl])
  refine ⟨fun c=>k4 (by omega),fun c1 _=>⟨fun c=>k4 (by omega),fun c2=>⟨fun c=>hk 1 (by unfold jy;rw [if_neg (fun h=>h hh),if_neg (by omega),if_pos (List.eq_nil_of_length_eq_zero (by omega))]),fun c3=>?_⟩⟩⟩
  have hl:¬(8<p.needs.length∨16<p.ops.length):=by omega
  have hne:p.ops≠ []:=fun e=>c3 (by rw [e];rfl)
  have hk2:∀b,(open Classical in if ¬vL p then (1:Int) else if ¬zJ p then 1 else if 6800<(jO (bare p)).length then 4 else 0)=b->R (.i b) H:=fun b hb=>hk b (by
   unfold jy
   rw [if_neg (fun h=>h hh),if_neg hl,if_neg hne]
   exact hb)
  clear hk k4
  simp only [<-hd]
  refine XW.loopK hmm (fun F H'=>∃(i:Nat),i<=p.needs.length∧(∀j,j<i->yv p j)∧Fr 120 [(1,.ptr b1 0),(3,.i i)] F∧((b1,AO.cells p.d)::H)=H') (fun F H=>match F.getD 3 .any with| .int _ n'=>p.needs.length - n'.toNat|_=>0) ⟨0,by omega,by omega,⟨rfl,rfl,rfl,trivial⟩,rfl⟩ ?_
  rintro _ _ ⟨i,hi,hv,hF,rfl⟩ K hN hE hR
  obtain ⟨z,rfl⟩:=hF.fl rfl
  try dsimp only [fl,zz,qa,qb] at*
  clear hF
  by_cases hlt:i<p.needs.length
  ·have nx:yv p i->∀F' H',back ((b1,AO.cells p.d)::H).length H'=((b1,AO.cells p.d)::H)->Fr 120 [(1,.ptr b1 0),(3,.i ((i+1:Nat):Int))] F'->K .normal F' H':=fun h1 F' H' hH hF'=>hN _ _ ⟨i+1,hlt,fun j hj=>by
     by_cases e:j=i
     ·rw [e];exact h1
     ·exact hv j (by omega),hF',hH.symm⟩ (by
    rw [Ma,hF'.2.2.1]
    simp only [Mc,Md,Mf]
    omega)
   have hno:¬yv p i->R (.i 1) H:=fun h1=>hk2 1 (by rw [if_pos (fun h=>h1 (h i hlt))])
   clear hN hE
   have q1:=wB hlt
   have q0:0<i->(qt p.needs).getD (i - 1) []=(p.needs.getD (i - 1) default).d:=fun h=>wB (by omega)
   unfold yv at nx hno
   generalize p.needs.getD i default=r at q1 nx hno
   generalize p.needs.getD (i - 1) default=t at q0 nx hno
   have hr:r.d= [.i r.o,.i r.s]:=rfl
   have ht:t.d= [.i t.o,.i t.s]:=rfl
   have w1:0<i->IntKind.i64.wrap ((i:Int) - 1)=((i - 1:Nat):Int):=fun h=>by rw [qm (by omega) (by omega)];omega
   have hrr:¬(0<=r.o∧r.o<=7∧r.o≠p.o∧1<=r.s∧r.s<=16∧(0<i->t.o<r.o))->∀F' H',(jV Tryz.prog [.tmp 2] H.length R) .ret F' H'->K .ret F' H':=fun _ F' H' h=>hR _ _ h
   by_cases c1:r.o<0
   ·simp+contextual only [hd,j4,q1,hr,(eq_true c1),↓Vl,↓XP,qh,XW1,qb]
    refine fun _=>⟨fun _ b4 hb _=>?_,fun hge=>absurd (by omega) hge⟩
    intros
    refine hR _ _ ?_
    simp+contextual only [↓XP,qo]
    exact hno (by omega)
   by_cases c2:7<r.o
   ·simp+contextual only [hd,j4,q1,hr,(eq_false c1),(eq_true c2),↓Vl,↓XP,qh,XW1,qb]
    refine fun _=>⟨fun _ b4 hb=>?_,fun hge=>absurd (by omega) hge⟩
    intros
    refine hR _ _ ?_
    simp+contextual only [↓XP,qo]
    exact hno (by omega)
   by_cases c3:r.o=p.o
   ·simp+contextual only [hd,j4,qg,q1,hr,(eq_false c1),(eq_false c2),(eq_true c3),↓Vl,↓XP,qh,XW1,qb]
    refine fun _=>⟨fun _ b4 hb=>?_,fun hge=>absurd (by omega) hge⟩
    intros
    refine hR _ _ ?_
    simp+contextual only [↓XP,qo]
    exact hno (by omega)
   by_cases c4:r.s<1
   ·simp+contextual only [hd,j4,qg,q1,hr,(eq_false c1),(eq_false c2),(eq_false c3),(eq_true c4),↓Vl,↓XP,qh,XW1,qb]
    refine fun _=>⟨fun _ b4 hb=>?_,fun hge=>absurd (by omega) hge⟩
    intros
    refine hR _ _ ?_
    simp+contextual only [↓XP,qo]
    exact hno (by omega)
   by_cases c5:16<r.s
   ·simp+contextual only [hd,j4,qg,q1,hr,(eq_false c1),(eq_false c2),(eq_false c3),(eq_false c4),(eq_true c5),↓Vl,↓XP,qh,XW1,qb]
    refine fun _=>⟨fun _ b4 hb=>?_,fun hge=>absurd (by omega) hge⟩
    intros
    refine hR _ _ ?_
    simp+contextual only [↓XP,qo]
    exact hno (by omega)
   by_cases hi0:0<i
   ·have q0':=q0 hi0
    have w1':=w1 hi0
    by_cases c6:r.o<=t.o
    ·simp+contextual only [hd,j4,qg,q1,hr,(eq_false c1),(eq_false c2),(eq_false c3),(eq_false c4),(eq_false c5),q0',ht,w1',(eq_true (by omega):((0:Int)<(i:Int))=True),(eq_true c6),↓Vl,↓XP,qh,XW1,qb,qe]
     refine fun _=>⟨fun _ b4 hb=>?_,fun hge=>absurd (by omega) hge⟩
     obtain ⟨n14,h4⟩:=hb
     intros
     refine ⟨by omega,fun _=>hR _ _ ?_⟩
     simp+contextual only [↓XP,qo]
     exact hno (by omega)
    ·simp+contextual only [hd,j4,qg,q1,hr,qi (show i<=big by omega),(eq_false c1),(eq_false c2),(eq_false c3),(eq_false c4),(eq_false c5),q0',ht,w1',(eq_true (by omega):((0:Int)<(i:Int))=True),(eq_false c6),↓Vl,↓XP,qh,XW1,qb,qe]
     refine fun _=>⟨fun _ b4 hb=>?_,fun hge=>absurd (by omega) hge⟩
     obtain ⟨n14,h4⟩:=hb
     intros
     exact ⟨by omega,fun _=>nx (by omega) _ _ (kV rfl) ⟨rfl,rfl,rfl,trivial⟩⟩
   ·simp+contextual only [hd,j4,qg,q1,hr,qi (show i<=big by omega),(eq_false c1),(eq_false c2),(eq_false c3),(eq_false c4),(eq_false c5),(eq_false (by omega):((0:Int)<(i:Int))=False),↓Vl,↓XP,qh,XW1,qb]
    refine fun _=>⟨fun _ b4 hb=>?_,fun hge=>absurd (by omega) hge⟩
    intros
    exact nx (by omega) _ _ (kV rfl) ⟨rfl,rfl,rfl,trivial⟩
  ·have hik:i=p.needs.length:=by omega
   subst hik
   clear hN
   have hon:vL p:=hv
   have hk3:∀b,(open Classical in if ¬zJ p then (1:Int) else if 6800<(jO (bare p)).length then 4 else 0)=b->R (.i b) H:=fun b hb=>hk2 b (by rw [if_neg (fun h=>h hon)];exact hb)
   clear hk2 hv
   simp+contextual only [hd,j4,↓Vl,↓XP,qh,XW1]
   refine fun _=>hE _ _ _ ?_
   clear hE hR
   simp+contextual only [↓Vl,↓XP,qo,XW1]
   simp only [<-hd]
   refine XW.loopK hmm (fun F H'=>∃(i:Nat),i<=p.ops.length∧(∀o∈p.ops.take i,YJ o)∧Fr 120 [(1,.ptr b1 0),(5,.i i)] F∧((b1,AO.cells p.d)::H)=H') (fun F H=>match F.getD 5 .any with| .int _ n'=>p.ops.length - n'.toNat|_=>0) ⟨0,by omega,by simp,⟨rfl,rfl,rfl,trivial⟩,rfl⟩ ?_
   rintro _ _ ⟨i,hi,hv,hF,rfl⟩ K hN hE hR
   obtain ⟨z,rfl⟩:=hF.fl rfl
   try dsimp only [fl,zz,qa,qb] at*
   clear hF
   by_cases hlt:i<p.ops.length
   ·have nx:YJ (p.ops.getD i default)->∀F',Fr 120 [(1,.ptr b1 0),(5,.i ((i+1:Nat):Int))] F'->K .normal F' ((b1,AO.cells p.d)::H):=fun h1 F' hF'=>hN _ _ ⟨i+1,hlt,fun o ho=>by
      rw [List.take_add_one] at ho
      rcases List.mem_append.1 ho with ho|ho
      ·exact hv o ho
      ·simp [hlt] at ho
       have:o=p.ops.getD i default:=by simp [hlt,ho]
       rw [this];exact h1,hF',(qz rfl).symm⟩ (by
     rw [Ma,hF'.2.2.1]
     simp only [Mc,Md,Mf]
     omega)
    have hm:p.ops.getD i default∈p.ops:=by rw [jx hlt];exact List.getElem_mem hlt
    have hno:¬YJ (p.ops.getD i default)->R (.i 1) H:=fun h1=>hk3 1 (by rw [if_pos (fun h=>h1 (h _ hm))])
    clear hN hE hk3
    have q1:=kJ hlt
    generalize p.ops.getD i default=o at q1 nx hno
    have hod:o.d= [.i o.k,.i o.on.o,.i o.on.s,.i o.on.i,.i o.to.o,.i o.to.s,.i o.to.i,.slc (qW o.ids),.i o.n,.str o.name,.str o.text,.i o.a,.i o.b]:=rfl
    simp+contextual only [hd,qI,q1,hod,↓Vl,↓XP,qh,XW1,qb]
    refine fun _=>⟨fun _=>A6 (o:=o) ?_,fun hge=>absurd (by omega) hge⟩
    by_cases ho:YJ o
    ·simp+contextual only [ho,qi (show i<=big by omega),↓Vl,↓XP,qo,XW1]
     simp only [<-hd]
     exact nx ho _ ⟨rfl,rfl,rfl,trivial⟩
    ·simp+contextual only [ho,↓XP,qo,XW1]
     refine hR _ _ ?_
     simp+contextual only [↓XP,qo]
     exact hno ho
   ·have hik:i=p.ops.length:=by omega
    subst hik
    clear hN
    rw [List.take_length] at hv
    have hoo:zJ p:=hv
    simp+contextual only [hd,qI,↓Vl,↓XP,qh,XW1]
    refine fun _=>hE _ _ _ ?_
    clear hE hR
    have hbd:(bare p).d= [.i p.o,.i p.s,.i p.day,.slc (qt p.needs),.slc (qu p.ops),.str []]:=rfl
    simp+contextual only [↓Vl,↓XP,qh,XW1,qb]
    refine dj (p:=bare p) (VK hp) fun _=>?_
    by_cases h68:6800<(jO (bare p)).length
    ·simp+contextual only [(eq_true (by omega):((6800:Int)<((jO (bare p)).length:Int))=True),↓XP,qh,XW1]
     exact fun _=>hk3 4 (by rw [if_neg (fun h=>h hoo),if_pos h68])
    ·simp+contextual only [(eq_false (by omega):((6800:Int)<((jO (bare p)).length:Int))=False),↓XP,qh,XW1]
     exact fun _=>hk3 0 (by rw [if_neg (fun h=>h hoo),if_neg h68])
end Go.Proofs.YtgopigkdcmhbbaaGreatDoor
end
section
namespace Go.Proofs.YtgopigkdcmhbbaaGreatDoor
open Go Go.Aw
theorem yW {R:D->AH->Prop} (h:R (.bool (decide (low<=n∧n<=high))) H):ACall Tryz.prog 44 [.i n,.i low,.i high] H R:=by
 refine b44 fun hf=>?_
 have hk:∀c,decide (low<=n∧n<=high)=c->R (.bool c) H:=fun b hb=>hb▸h
 simp+contextual only [↓U44,↓U44.1,↓XP,qo,qa,qb]
 repeat' (first|apply And.intro|intro _)
 all_goals first
  |exact hk _ (decide_eq_true (by omega))
  |exact hk _ (decide_eq_false (by omega))
  |exact hk _ (decide_eq_decide.2 (by omega))
  |skip
def zB (o s:Int):Prop:=0<=o∧o<=7∧1<=s∧s<=16
instance (o s:Int):Decidable (zB o s):=by unfold zB;exact inferInstance
theorem gp {R:D->AH->Prop} (h:R (.bool (decide (zB o s))) H):ACall Tryz.prog 43 [.i o,.i s] H R:=by
 refine b43 fun hf=>?_
 have hk:∀c,decide (zB o s)=c->R (.bool c) H:=fun b hb=>hb▸h
 simp+contextual only [↓U43,↓U43.1,↓XP,qo,qa,qb]
 refine yW ?_
 by_cases h1:0<=o∧o<=7
 ·simp+contextual only [eq_true h1,↓XP,qo,XW1]
  refine yW ?_
  simp+contextual only [↓XP,qo,XW1]
  exact hk _ (decide_eq_decide.2 (by unfold zB;omega))
 ·simp+contextual only [eq_false h1,↓XP,qo,XW1]
  exact hk _ (decide_eq_false (by unfold zB;omega))
theorem GA {R:D->AH->Prop} (h:R (.bool (decide (yx x))) H):ACall Tryz.prog 90 [.agg x.d] H R:=by
 refine b90 fun hf=>?_
 have hd:x.d= [.i x.o,.i x.s,.i x.i]:=rfl
 have hk:∀b,decide (yx x)=b->R (.bool b) H:=fun b hb=>hb▸h
 simp+contextual only [↓U90,hd,↓U90.1,↓XP,qh,qa]
 refine fun b1 h1 _ _=>gp ?_
 by_cases h1:zB x.o x.s
 ·simp+contextual only [eq_true h1,↓XP,qh,XW1]
  refine fun _=>yW ?_
  simp+contextual only [↓XP,qo,XW1]
  exact hk _ (decide_eq_decide.2 (by unfold zB at h1;unfold yx;omega))
 ·simp+contextual only [eq_false h1,↓XP,qo,XW1]
  exact hk _ (decide_eq_false (by unfold zB at h1;unfold yx;omega))
theorem i7 {R:D->AH->Prop} (h:R (.bool (decide (yf a b))) H):ACall Tryz.prog 91 [.agg [.i a,.i b]] H R:=by
 refine b91 fun hf=>?_
 have hk:∀c,decide (yf a b)=c->R (.bool c) H:=fun b hb=>hb▸h
 simp+contextual only [↓U91,↓U91.1,↓XP,qh,XW1,qa]
 intro b1 h1
 repeat' (first|apply And.intro|intro _)
 all_goals first
  |exact hk _ (decide_eq_true (by unfold yf;omega))
  |exact hk _ (decide_eq_false (by unfold yf;omega))
  |exact hk _ (decide_eq_decide.2 (by unfold yf;omega))
  |skip
end Go.Proofs.YtgopigkdcmhbbaaGreatDoor
end
