/- Walks and lemmas on the program of this seat, used by its statements; each theorem bears its own conditions. -/
import Derived.Test.YteplbljjlbdhaacGreatDoorY46
import Derived.Test.YteplbljjlbdhaacGreatDoorCards
import Derived.Test.YteplbljjlbdhaacGreatDoorTie
import Derived.Lib.LaidU8T
import Derived.Lib.LaidIn
import Derived.PinnedBridge
import Derived.ProofKit
import Derived.OpenShut
import Derived.Deep.DeepHandedRow
import Derived.Deep.DeepWitnessRowRef
import Derived.SliceStrings
import Derived.Lib.SmallJoins
namespace Go.Proofs.YteplbljjlbdhaacGreatDoor
open Go.RowKit
set_option linter.unusedVariables false
set_option linter.unusedSimpArgs false
set_option linter.unusedSectionVars false
set_option maxHeartbeats 16000000
set_option maxRecDepth 100000
theorem flistN_any (w : World) (fb sb : Nat) (V : OM) (given : Nat) (E : List Nd) (h : FR w fb sb V given E) (hT : Tabs w) (s : List UInt8) (hs : s.length < 4294967281) :
    Calls Tryz.prog 30 #[Ptr fb,S s] w fun e w'=>(∃ lv,e = .returned (.tuple #[lv,I (listF E s).1])∧StrsAt w' lv (listF E s).2∧∀ q,lv.ownBlock=some q→w.heap.size≤q∧q<w'.heap.size)∧Kept [] w w':=by
  have HG:=Lib.hid (got_any w fb sb V given E h hT s hs)
  obtain⟨r,hr⟩:∃ r,listF E s=r:=⟨_,rfl⟩
  rw[hr]
  have HR:=Lib.hid hr
  have H:=Lib.hid h
  obtain⟨i0,hi,hz0,hz1,hz2⟩:=info_parts strg_info
  have HI:=Lib.hid (And.intro hi (And.intro hz0 (And.intro hz1 hz2)))
  clear h hs hT hr hi hz0 hz1 hz2
  go_enter Tryz.func30,Tryz.ntmps30
  go_wp2_with (fail)
  refine HG.out.mono ?_
  rintro e w1 ⟨⟨v,rfl,h1⟩,k1⟩
  have K1:=Lib.hid k1
  clear k1
  unfold GotP at h1
  cases hp:WX.pathF s with
  | none =>
    rw[hp] at h1
    have h1:v = .tuple #[I 0,.nilIface,I 160]:=h1
    subst h1
    have HE:Hid (r=(160,[])):=Lib.hid (by rw[← HR.out];unfold listF;rw[hp])
    clear hp
    go_wp2_with (fail)
    go_ret2
    exact ⟨⟨.slice none 0 0,by rw[HE.out];rfl,by rw[HE.out];exact StrsAt.nil _,fun q (hq:none=some q)=>by cases hq⟩,K1.out⟩
  | some p =>
    rw[hp] at h1
    obtain⟨h1,_⟩:=h1
    unfold FindP at h1
    by_cases hz:findF E [] p=0
    · rw[if_pos hz] at h1
      obtain⟨nv,rfl,hn⟩:=h1
      have HE0:Hid (r=if isDirP E p=true then (0,(kids E p).map (·.1)) else (163,[])):=Lib.hid (by rw[← HR.out];unfold listF;rw[hp];simp only;rw[if_neg (by simpa using hz)])
      rcases hn with ⟨hd,d,rfl,hens⟩ | ⟨hd,x,hx,rfl⟩
      · have hta:=fun (W:World)=>(show (Instr.typeAssert (.iface 96 d) 108 96 true).run Tryz.prog W = .ok (.tuple #[d,.bool true]) W from by kernel_rfl)
        obtain⟨l,hl⟩:∃ l,kids E p=l:=⟨_,rfl⟩
        have HE:Hid (r=(0,l.map (·.1))):=Lib.hid (by rw[HE0.out,if_pos hd,hl])
        have hls:=H.out.wf.kids_small p
        rw[hl] at hens hls
        obtain⟨pd,cd,bd,rfl,hcd,hpd,hcells⟩:=hens
        have HC:=Lib.hid (And.intro hpd hcells)
        have hlI:(l.length:Int)≤1000:=by omega
        clear hz hd hp hpd hcells hcd HE0 hl
        go_wp2_with (fail)
        go_loopw [11,33] (fun v11 i wr=>∃ (j:Nat) (q:Option Addr) (c:Nat),j≤l.length∧i=I j∧v11 = .slice q j c∧wr.ownsRow w1.heap.size 9 1 (.slice q j c) j ((l.take j).map fun x=>S x.1)∧Kept [] w1 wr) (fun _ i _=>l.length-(intOf i).toNat)
        case atStart=>exact ⟨0,none,0,by omega,rfl,rfl,⟨rfl,.inl ⟨rfl,rfl⟩⟩,Kept.refl _ _⟩
        case round =>
          obtain⟨j,q,c,hj,rfl,rfl,own,kr⟩:=hrel
          obtain⟨hi,hz0,hz1,hz2⟩:=HI.out
          by_cases hlt:j<l.length
          · have hltI:(j:Int)<l.length:=by omega
            obtain⟨hpd,hcells⟩:=HC.out
            have hpe:=hpd (by intro h;subst h;simp at hlt)
            subst hpe
            obtain⟨d0,d1⟩:=hcells j hlt
            have e0:=kr.cellOf d0
            have e1:=kr.cellOf d1
            obtain⟨⟨nm,num⟩,hx⟩:∃ x,l[j]=x:=⟨_,rfl⟩
            rw[hx] at e0 e1
            simp only at e0 e1
            have htk:(l.take (j+1)).map (fun x=>S x.1)=(l.take j).map (fun x=>S x.1)++[S nm]:=by
              rw[List.take_add_one,List.getElem?_eq_getElem hlt,hx];simp
            have hk2:=(Kept.refl [] wr).alloc (Obj.cells #[S nm,I num] 127)
            obtain⟨W2,hW2⟩:∃ W2,wr.alloc (Obj.cells #[S nm,I num] 127)=W2:=⟨_,rfl⟩
            have n2:=heap_new wr (Obj.cells #[S nm,I num] 127)
            rw[hW2] at hk2 n2
            have c2:=cell_at n2 0
            simp only[List.getElem?_toArray,List.getElem?_cons_zero] at c2
            have HJ:=Lib.hid (And.intro own (And.intro kr (And.intro htk (And.intro hk2 (And.intro hls (heap_new W2 (Obj.cells #[S nm] 9)))))))
            clear own kr htk hk2 n2 hpd hcells d0 d1 hx
            go_wp2_with (first
              | (simp only[hW2];done)
              | (at_builtin
                 refine wpList_append_lies _ rfl (.tmp 37) (.tmp 40) _ rfl w1.heap.size 9 i0 (S []) 1 16 Tryz.underlying64 hi hz0 hz1 hz2 rfl (by decide) (.slice q j c) j _ rfl (own_kept (own_kept HJ.out.1 HJ.out.2.2.2.1 (by simp)) ((Kept.refl [] W2).alloc _) (by simp)) ⟨W2.heap.size,0,none⟩ 1 1 [S nm] rfl rfl (World.news_of_block HJ.out.2.2.2.2.2) (by intro u hu;simp at hu;subst hu;rfl) (by decide) (by unfold maxLen;omega) (by omega) (by have h1:=HJ.out.2.1.size;have h2:=HJ.out.2.2.2.1.size;rw[World.size_alloc];omega) _ rfl ?_
                 intro g2 cap wa own1 gr1 hat hlt
                 have HA:=Lib.hid (And.intro own1 (kept_grown gr1))
                 clear own1 gr1 hat hlt)
              | (simp only[hW2]))
            go_roundw
            case rel =>
              obtain⟨own1,kg⟩:=HA.out
              obtain⟨own,kr,htk,hk2,_,_⟩:=HJ.out
              refine ⟨j+1,some ⟨g2,0,none⟩,cap,by omega,by go_num,rfl,?_,?_⟩
              · rw[htk];exact own1
              · refine kr.new ((hk2.alloc _).mono (by simp) |>.trans' kg) ?_
                intro x hx
                exact (own_lt own x (by simpa using hx)).1
            case measure=>simp [intOf];omega
          · have hje:j=l.length:=by omega
            subst hje
            rw[List.take_length] at own
            have HK:=Lib.hid (And.intro own kr)
            clear own kr HC
            go_wp2_with (fail)
            go_ret2
            refine ⟨⟨_,by rw[HE.out];rfl,?_,fun q hq=>⟨Nat.le_trans K1.out.size (own_lt HK.out.1 q hq).1,(own_lt HK.out.1 q hq).2⟩⟩,K1.out.trans' HK.out.2⟩
            rw[HE.out]
            refine strs_own (B:=w1.heap.size) ?_ (by rw[List.length_map];omega)
            have:=HK.out.1
            rw[List.length_map,List.map_map]
            exact this
      · have hta:=fun (W:World)=>(show (Instr.typeAssert (.iface 89 (.agg #[I x.data.length])) 108 96 true).run Tryz.prog W = .ok (.tuple #[.slice none 0 0,.bool false]) W from by kernel_rfl)
        have HE:Hid (r=(163,[])):=Lib.hid (by rw[HE0.out,if_neg (by rw[hd];decide)])
        clear hz hd hx hp HE0
        go_wp2_with (fail)
        go_ret2
        exact ⟨⟨.slice none 0 0,by rw[HE.out];rfl,by rw[HE.out];exact StrsAt.nil _,fun q (hq:none=some q)=>by cases hq⟩,K1.out⟩
    · rw[if_neg hz] at h1
      subst h1
      have hzI:((findF E [] p:Int) != 0)=true:=by simp;exact hz
      have HE:Hid (r=(((findF E [] p:Nat):Int),[])):=Lib.hid (by rw[← HR.out];unfold listF;rw[hp];simp only;rw[if_pos hz])
      clear hz hp
      go_wp2_with (fail)
      go_ret2
      exact ⟨⟨.slice none 0 0,by rw[HE.out];rfl,by rw[HE.out];exact StrsAt.nil _,fun q (hq:none=some q)=>by cases hq⟩,K1.out⟩
theorem StrsAt.keptM {w w':World} {v:Value} {ss:List Nm} {T:List Nat} (h:StrsAt w v ss) (k:Kept T w w') (hT:∀ q,v.ownBlock=some q→q∉T):StrsAt w' v ss:=by
 obtain⟨p,cap,rfl,hl,hl2,hnn,hc⟩:=h
 refine ⟨p,cap,rfl,hl,hl2,hnn,fun hne=>?_⟩
 obtain⟨b,off,rfl,hcell⟩:=hc hne
 refine ⟨b,off,rfl,fun i hi=>?_⟩
 have hb:b∉T:=hT b rfl
 exact kept_cell k (hcell i hi) hb
theorem Lf.more {w0 w w':World} {ff fb sb n d given:Nat} {E:List Nd} {M:List Nat} (h:Lf w0 w ff fb sb n d given E M) (k:Kept [] w w') (l:List Nat) (hl:∀ x∈l,w.heap.size≤x∧x<w'.heap.size):Lf w0 w' ff fb sb n d given E (l++M):=by
 obtain⟨V,T,U,h1,h2,h3,h4⟩:=h
 have hlt:=h1.st.stk.lt
 have hb:=h1.tabs.2.1
 have hz:=h4.size
 refine ⟨V,T,U,h1.same k,h2,fun x hx=>?_,h4.trans' k⟩
 rcases List.mem_append.1 hx with hx | hx
 ·obtain⟨a,b⟩:=hl x hx
  exact ⟨fun hm=>by have:=hlt x hm;omega,fun hm=>by have:=hb x hm;omega,b,by omega⟩
 ·exact ⟨(h3 x hx).1,(h3 x hx).2.1,Nat.lt_of_lt_of_le (h3 x hx).2.2.1 k.size,(h3 x hx).2.2.2⟩
theorem TabsU.cons {w:World} {U:List Nat} {x:Nat} (h:TabsU w U) (hx:x<w.heap.size):TabsU w (x::U):=
 ⟨h.1,fun y hy=>(List.mem_cons.1 hy).elim (fun e=>e ▸ hx) (fun hy=>h.2.1 y hy),fun T w' k hT=>h.2.2 T w' k (fun y hy hu=>hT y hy (List.mem_cons_of_mem _ hu))⟩
theorem laid_lf {n:Nat} {w w':World} {e:Ending} (h:Laid16 n w e w') {U:List Nat} (hU:TabsU w U) :
  ∃ fb ff mb sb,e = .returned (.tuple #[Ptr fb,Ptr ff,Ptr mb])∧Lf w w' ff fb sb n 0 0 [] [mb]∧Df w' mb n 0 (.slice none 0 0) [] [mb]:=by
 obtain⟨fb,ff,mb,sb,T,rfl,h1,h2,h3,h4,h5,h6,h7,h8,k⟩:=h
 refine ⟨fb,ff,mb,sb,rfl,⟨[],T,ff::U,⟨h1,h2,sim_nil,wf_nil,by omega,(hU.same k).cons h6,List.mem_cons_self,fun x hx hu=>?_,by omega⟩,fun x hx=>(h4 x hx).1,fun x hx=>?_,k⟩,h3,List.mem_cons_self,fun q (hq:none=some q)=>by cases hq⟩
 ·rcases List.mem_cons.1 hu with rfl | hu
  ·exact (h4 _ hx).2.2.1 rfl
  ·have:=(h4 x hx).1
   have:=hU.2.1 x hu
   omega
 ·have:x=mb:=by simpa using hx
  subst this
  refine ⟨fun hm=>(h4 _ hm).2.2.2 rfl,fun hu=>?_,h3.lt,h7⟩
  rcases List.mem_cons.1 hu with rfl | hu
  ·exact h8 rfl
  ·have:=hU.2.1 _ hu
   omega
section
variable {w0 w:World} {ff fb sb n d given:Nat} {E:List Nd} {M:List Nat}
def LfP (w0 w:World) (ff fb sb n d:Nat) (M:List Nat) (R:Int×Nat×List Nd) (e:Ending) (w':World):Prop:=
 e = .returned (I R.1)∧Lf w0 w' ff fb sb n (d+2*(n+1)) R.2.1 R.2.2 M∧∃ T,(∀ x∈M,x∉T)∧Kept T w w'
theorem lf_make (h:Lf w0 w ff fb sb n d given E M) (hd:d≤500000000) (hn:n≤255) (hg:given+1≤16777000) (s:List UInt8) (hs:s.length<4294967281) :
  Calls Tryz.prog 18 #[Ptr ff,S s] w (LfP w0 w ff fb sb n d M (makeF n given E s false)):=
 lf_op h hd hn (fun V T U hc=>make_any w ff fb sb n V d T true given E U hc hd s hs) (make_grown h.wf s false) hg
theorem lf_makeDir (h:Lf w0 w ff fb sb n d given E M) (hd:d≤500000000) (hn:n≤255) (hg:given+1≤16777000) (s:List UInt8) (hs:s.length<4294967281) :
  Calls Tryz.prog 20 #[Ptr ff,S s] w (LfP w0 w ff fb sb n d M (makeF n given E s true)):=
 lf_op h hd hn (fun V T U hc=>makeDir_any w ff fb sb n V d T true given E U hc hd s hs) (make_grown h.wf s true) hg
theorem lf_write (h:Lf w0 w ff fb sb n d given E M) (hd:d≤500000000) (hn:n≤255) (hg:given+1≤16777000) (s:List UInt8) (hs:s.length<4294967281) (a:Int) (ha:I64 a) (t:List UInt8) (ht:t.length≤4611686018427387904) :
  Calls Tryz.prog 21 #[Ptr ff,S s,I a,S t] w (LfP w0 w ff fb sb n d M (writeF n given E s a t)):=
 lf_op h hd hn (fun V T U hc=>fwrite_any w ff fb sb n V d T true given E U hc hd s hs a ha t ht) (write_grown h.wf s a t) hg
theorem lf_rename (h:Lf w0 w ff fb sb n d given E M) (hd:d≤500000000) (hn:n≤255) (hg:given+1≤16777000) (s t:List UInt8) (hs:s.length<4294967281) (ht:t.length<4294967281) :
  Calls Tryz.prog 25 #[Ptr ff,S s,S t] w (LfP w0 w ff fb sb n d M (renameF n given E s t)):=
 lf_op h hd hn (fun V T U hc=>frename_any w ff fb sb n V d T true given E U hc hd s t hs ht) (rename_grown h.wf s t) hg
theorem lf_list (h:Lf w0 w ff fb sb n d given E M) (s:List UInt8) (hs:s.length<4294967281) :
  Calls Tryz.prog 30 #[Ptr ff,S s] w fun e w'=>(∃ lv,e = .returned (.tuple #[lv,I (listF E s).1])∧StrsAt w' lv (listF E s).2∧∀ q,lv.ownBlock=some q→w.heap.size≤q∧q<w'.heap.size)∧Kept [] w w':=by
 obtain⟨⟨V,h1⟩,hT⟩:=h.fr
 exact flistN_any w ff sb V given E h1 hT s hs
theorem lf_read (h:Lf w0 w ff fb sb n d given E M) (s:List UInt8) (hs:s.length<4294967281) (a m:Int) (ha:I64 a) (hm:I64 m) :
  Calls Tryz.prog 36 #[Ptr ff,S s,I a,I m] w fun e w'=>e = .returned (.tuple #[S (readF E s a m).1,I (readF E s a m).2])∧Kept [] w w':=by
 obtain⟨⟨V,h1⟩,hT⟩:=h.fr
 exact ffread_any w ff sb V given E h1 hT s hs a m ha hm
end
theorem fixed16_any (w:World) (U:List Nat) (hU:TabsU w U):Calls Tryz.prog 13 #[] w fun e w'=>e = .returned (.bool true)∧Kept [] w w':=by
 have HLA:=Lib.hid (laid16_any w 14)
 have hb:blk16 14=14:=rfl
 rw[hb] at HLA
 have HU:=Lib.hid hU
 clear hU hb
 go_enter Tryz.func13,Tryz.ntmps13
 go_wp2_with (fail)
 refine HLA.out.mono ?_
 intro e w2 hla
 obtain⟨fb,ff,mb,sb,rfl,hs,_⟩:=laid_lf hla HU.out
 have HQ:=Lib.hid (lf_quota hs)
 have HW:=Lib.hid (lf_weight hs)
 replace HW:Hid (Calls Tryz.prog 33 #[Ptr ff] w2 fun e w'=>e = .returned (I 0)∧w'=w2):=HW
 replace HQ:Hid (Calls Tryz.prog 40 #[Ptr ff] w2 fun e w'=>e = .returned (I 35)∧w'=w2):=HQ
 have H2:=Lib.hid hs
 clear hs hla HLA
 go_wp2_with (fail)
 refine HQ.out.mono ?_
 rintro e w3 ⟨rfl,rfl⟩
 go_wp2_with (fail)
 refine HW.out.mono ?_
 rintro e w4 ⟨rfl,rfl⟩
 clear HQ HW
 have HM:=Lib.hid (lf_make H2.out (by omega) (by omega) (by omega) [47,97] (by decide))
 rw[qx1] at HM
 go_wp2_with (fail)
 refine HM.out.mono ?_
 rintro e w5 ⟨rfl,hs,_⟩
 have HW:=Lib.hid (lf_weight hs)
 rw[show wL (objL (0,1,qE1).2.1 (0,1,qE1).2.2)=3 from qx2] at HW
 have H5:=Lib.hid hs
 clear hs HM H2
 go_wp2_with (fail)
 refine HW.out.mono ?_
 rintro e w6 ⟨rfl,rfl⟩
 clear HW
 obtain⟨Wz,z1,z2,z3,z4⟩:=zeros_made w6 60 (by omega)
 have z1':(Instr.makeSlice 52 (I 60) (I 60)).run Tryz.prog w6 = .ok (.slice (some ⟨w6.heap.size,0,none⟩) 60 60) Wz:=z1
 have z5:=z4 60 Wz (Kept.refl _ _)
 obtain⟨zs,hzs⟩:∃ zs,qZ=zs:=⟨_,rfl⟩
 have hz0:zerosL 60=zs:=by rw[← hzs];rfl
 rw[hz0] at z5
 have HM:=Lib.hid (lf_write (H5.out.same z2) (by omega) (by omega) (by omega) [47,97] (by decide) 0 ⟨by decide,by decide⟩ qZ (by decide))
 rw[show writeF 14 (0,1,qE1).2.1 (0,1,qE1).2.2 [47,97] 0 qZ=(0,1,qE2) from qx3,hzs] at HM
 clear H5 z1 z2 z3 z4 hz0
 go_wp2_with (fail)
 refine HM.out.mono ?_
 rintro e w7 ⟨rfl,hs,_⟩
 have HW:=Lib.hid (lf_weight hs)
 rw[show wL (objL (0,1,qE2).2.1 (0,1,qE2).2.2)=5 from qx4] at HW
 have H5:=Lib.hid hs
 clear hs HM z1' z5 hzs
 go_wp2_with (fail)
 refine HW.out.mono ?_
 rintro e w8 ⟨rfl,rfl⟩
 clear HW
 have HM:=Lib.hid (lf_makeDir H5.out (by omega) (by omega) (by show 1+1≤16777000;omega) [47,100] (by decide))
 rw[show makeF 14 (0,1,qE2).2.1 (0,1,qE2).2.2 [47,100] true=(0,2,qE3) from qx5] at HM
 clear H5
 go_wp2_with (fail)
 refine HM.out.mono ?_
 rintro e w9 ⟨rfl,hs,_⟩
 have H9:=Lib.hid hs
 clear hs HM
 have HM:=Lib.hid (lf_rename H9.out (by omega) (by omega) (by show 2+1≤16777000;omega) [47,97] [47,100,47,97] (by decide) (by decide))
 rw[show renameF 14 (0,2,qE3).2.1 (0,2,qE3).2.2 [47,97] [47,100,47,97]=(0,2,qE4) from qx6] at HM
 clear H9
 go_wp2_with (fail)
 refine HM.out.mono ?_
 rintro e w10 ⟨rfl,hs,_⟩
 have HL:=Lib.hid (lf_list hs [47,100] (by decide))
 rw[show listF (0,2,qE4).2.2 [47,100]=(0,[[97]]) from qx7] at HL
 have H9:=Lib.hid hs
 clear hs HM
 go_wp2_with (fail)
 refine HL.out.mono ?_
 rintro e w11 ⟨⟨lv,rfl,hst,hq⟩,k11⟩
 have H10:=Lib.hid (H9.out.more k11 lv.ownBlock.toList (fun x hx=>hq x (by simpa using hx)))
 have HST:=Lib.hid hst
 clear hst k11 H9 HL hq
 have HM:=Lib.hid (lf_rename H10.out (by omega) (by omega) (by show 2+1≤16777000;omega) [47,100] [47,100,47,120] (by decide) (by decide))
 rw[show renameF 14 (0,2,qE4).2.1 (0,2,qE4).2.2 [47,100] [47,100,47,120]=(164,2,qE4) from qx8] at HM
 clear H10
 go_wp2_with (fail)
 refine HM.out.mono ?_
 rintro e w12 ⟨rfl,hs,T1,hT1,k1⟩
 have HST1:=Lib.hid (HST.out.keptM k1 (fun q hq=>hT1 q (by simp [hq])))
 have H12:=Lib.hid hs
 clear hs HM hT1 k1 HST
 have HM:=Lib.hid (lf_make H12.out (by omega) (by omega) (by show 2+1≤16777000;omega) [47,100,47,97,47,98] (by decide))
 rw[show makeF 14 (164,2,qE4).2.1 (164,2,qE4).2.2 [47,100,47,97,47,98] false=(163,2,qE4) from qx9] at HM
 clear H12
 go_wp2_with (fail)
 refine HM.out.mono ?_
 rintro e w13 ⟨rfl,hs,T1,hT1,k1⟩
 have HST2:=Lib.hid (HST1.out.keptM k1 (fun q hq=>hT1 q (by simp [hq])))
 have HRD:=Lib.hid (lf_read hs [47,100,47,97] (by decide) 58 9 ⟨by decide,by decide⟩ ⟨by decide,by decide⟩)
 rw[show readF (163,2,qE4).2.2 [47,100,47,97] 58 9=([0,0],0) from qx10] at HRD
 have H13:=Lib.hid hs
 clear hs HM hT1 k1 HST1
 go_wp2_with (fail)
 refine HRD.out.mono ?_
 rintro e w14 ⟨rfl,k14⟩
 have H14:=Lib.hid (H13.out.same k14)
 have HST3:=Lib.hid (HST2.out.kept k14)
 clear k14 HRD H13 HST2
 obtain⟨W2,hW2⟩:∃ W2,w14.alloc (.cells #[S [97]] 9)=W2:=⟨_,rfl⟩
 have k2:Kept [] w14 W2:=by rw[← hW2];exact (Kept.refl _ _).alloc _
 have hst2:StrsAt W2 (.slice (some ⟨w14.heap.size,0,none⟩) 1 1) [[97]]:=by
  rw[← hW2]
  exact StrsAt.new (ss:=[[97]]) (heap_new w14 _) (by simp) (by simp)
 have HSM:=Lib.hid (same_at lv _ [[97]] [[97]] true W2 (by decide) (HST3.out.kept k2) hst2)
 have HM:=Lib.hid (fun W (k:Kept [] W2 W)=>lf_make ((H14.out.same k2).same k) (by omega) (by omega) (by show 2+1≤16777000;omega) [97] (by decide))
 have HM2:Hid (∀ W,Kept [] W2 W→Calls Tryz.prog 18 #[Ptr ff,S [97]] W fun e w'=>e = .returned (I 160)∧Kept [] w w'):=Lib.hid (fun W k=>by
  refine (HM.out W k).mono ?_
  rintro e w' ⟨rfl,hs,_⟩
  refine ⟨?_,hs.old⟩
  rw[show makeF 14 (163,2,qE4).2.1 (163,2,qE4).2.2 [97] false=(160,2,qE4) from qx11])
 clear hst2 k2 H14 HST3 HM
 go_wp2_with (simp only[hW2];done)
 refine HSM.out.mono ?_
 rintro e w16 ⟨rfl,k16⟩
 have HM3:=Lib.hid (HM2.out w16 k16)
 clear HM2 k16 HSM
 go_wp2_with (fail)
 refine HM3.out.mono ?_
 rintro e w17 ⟨rfl,k17⟩
 go_wp2_with (fail)
 go_ret
 exact ⟨rfl,k17⟩
section
section
open Go.ChangeShapes Go.WideShapes Go.Deep Go.Joins
variable {H:Type} {enc:TypeId×Value→H} {P:Program} {w:World} {base:Nat} {spare:Nat→Bool} {held:Bool}
theorem open_agg_any {r:Reach} {b0:Nat} {t:TypeId} {fs:Array Field} {v:Value} {d:DataW H} {p:List MemPlace} (hs:P.underlying t=some (.struct fs)) (hone:oneCellFields P fs=true) (hC:P.cellsOf t=fs.size)
  (hv:Value.okWide P w r b0 t v) (h:DataW.Trod enc P w base spare held t v d p) :
  ∃ (cs:Array Value) (ys:List (DataW H×List MemPlace)) (n:Nat),v = .agg cs∧cs.size=fs.size∧d = .agg (ys.map (·.1))∧ys.length=fs.size ∧
   ∀ (j:Nat) (f:Field),fs[j]? = some f→∃ u y,cs[j]? = some u∧ys[j]? = some y∧DataW.trod enc P w base spare held n f.type [u]=some y:=by
 obtain⟨cs,rfl,hsz⟩:=okWide_struct hs hv
 obtain⟨fuel,hf⟩:=h
 obtain⟨xs,n,_,hx,_,hlen,hg⟩:=DataW.trod_struct hs hf
 simp only[Prod.mk.injEq] at hx
 refine ⟨cs,xs,n,rfl,hsz.trans hC,hx.1,hlen,fun j f hj=>?_⟩
 obtain⟨ho,hk⟩:=hone_of hone j f hj
 have hjl:j<fs.size:=(Array.getElem?_eq_some_iff.1 hj).1
 have hsz':cs.size=fs.size:=hsz.trans hC
 have h1:=hg j f hj
 rw[ho,hk] at h1
 have hl:(Value.agg cs).cells=cs:=by simp [Value.cells]
 rw[hl] at h1
 have hone':(cs.toList.drop j).take 1=[cs[j]'(by omega)]:=by
  rw[List.drop_eq_getElem_cons (by simpa using (by omega:j<cs.size))]
  simp
 rw[hone'] at h1
 have hys:xs[j]? = some (xs[j]'(by omega)):=List.getElem?_eq_getElem (by omega)
 exact ⟨_,_,Array.getElem?_eq_getElem (by omega),hys,h1.trans hys⟩
theorem open_slice_fields {t e:TypeId} {fs:Array Field} {fuel:Nat} {cs:List Value} {x:DataW H×List MemPlace} (ht:P.underlying t=some (.slice e)) (he:P.underlying e=some (.struct fs))
  (hone:oneCellFields P fs=true) (hC:P.cellsOf e=fs.size) (h:DataW.trod enc P w base spare held fuel t cs=some x) :
  (cs=[.slice none 0 0]∧x=(.nil,[])) ∨
  ∃ (a:Addr) (len cap m:Nat) (D:Nat→DataW H) (Pl:Nat→List MemPlace),cs=[.slice (some a) len cap]∧base≤a.block∧len≤cap∧cap≤maxLen∧m=(if spare a.block then cap else len) ∧
   x=(.slice ((List.range len).map D) ((List.range (m-len)).map fun j=>D (len+j)),MemPlace.row a (m*fs.size)++(List.range m).flatMap Pl) ∧
   ∀ i,i<m→∃ (ys:List (DataW H×List MemPlace)) (n:Nat),D i = .agg (ys.map (·.1))∧Pl i=ys.flatMap (·.2)∧ys.length=fs.size ∧
    ∀ (j:Nat) (f:Field),fs[j]? = some f→∃ (v:Value) (y:DataW H×List MemPlace),w.cell? (a.add (i*fs.size+j))=some v∧ys[j]? = some y∧DataW.trod enc P w base spare held n f.type [v]=some y:=by
 rcases open_slice ht h with h0 | ⟨a,len,cap,m,n,D,Pl,hcs,hb,hl,hm,hmm,hx,hi⟩
 ·exact .inl h0
 ·refine .inr ⟨a,len,cap,m,D,Pl,hcs,hb,hl,hm,hmm,by rw[hC] at hx;exact hx,fun i him=>?_⟩
  obtain⟨cs',hc,ht'⟩:=hi i him
  rw[hC] at hc
  obtain⟨ys,n',hn',hy,hlen,hyl,hf⟩:=DataW.trod_struct he ht'
  obtain⟨_,hcl,hat⟩:=World.cells?_some hc
  simp only[Prod.mk.injEq] at hy
  refine ⟨ys,n',hy.1,hy.2,hyl,fun j f hj=>?_⟩
  obtain⟨ho,hk⟩:=hone_of hone j f hj
  have hjl:j<fs.size:=(Array.getElem?_eq_some_iff.1 hj).1
  have hcell:=hat j hjl
  have hv:cs'[j]? = some (cs'[j]'(by omega)):=List.getElem?_eq_getElem (by omega)
  have h1:=hf j f hj
  rw[ho,hk] at h1
  have hone':(cs'.drop j).take 1=[cs'[j]'(by omega)]:=by
   rw[List.drop_eq_getElem_cons (by omega)]
   rfl
  rw[hone'] at h1
  have hys:ys[j]? = some (ys[j]'(by omega)):=List.getElem?_eq_getElem (by omega)
  refine ⟨_,_,?_,hys,h1.trans hys⟩
  rw[← Go.Deep.add_add,hcell,hv]
end
open Go.Lib Go.ChangeShapes Go.WideShapes Go.ChangeAt
theorem own:ownKnob Tryz.prog.godebug=none:=by kernel_rfl
theorem laidOut:laidOutB Tryz.prog=true:=by kernel_rfl
noncomputable def laidWorld (os:Os):World:=
 let w0:=World.holding Tryz.prog os ⟨#[],#[],[]⟩
 let put (h:Array Obj) (g:Nat) (cs:Array Value):Array Obj:=h.modify g fun
  | .cells _ t frozen=>.cells cs t frozen
  | o=>o
 let h4:=put w0.heap 1 (Lib.firstTab.map fun z=>Value.int .u8 z).toArray
 let h5:=put h4 2 ((List.range 16).flatMap fun i=>[Value.int .u8 (Lib.accLo i),Value.int .u8 (Lib.accHi i)]).toArray
 { w0 with heap:=h5 }
theorem laid_a (os:Os) (args:Array Value):LaidIn Tryz.prog ((laidWorld os).forCall (fun _ _=>0) ⟨#[],args,[]⟩).memory [("unicode/utf8.acceptRanges", Rows.laid_unicode_utf8_acceptRanges)] [2]:=
 LaidIn.of_run _ 10 (by kernel_rfl) (by kernel_rfl) (by kernel_rfl) (by kernel_rfl)
theorem laid_b (os:Os) (args:Array Value):LaidIn Tryz.prog ((laidWorld os).forCall (fun _ _=>0) ⟨#[],args,[]⟩).memory [("unicode/utf8.first", Rows.laid_unicode_utf8_first)] [1]:=
 LaidIn.of_run _ 10 (by kernel_rfl) (by kernel_rfl) (by kernel_rfl) (by kernel_rfl)
theorem laid_met (os:Os) (args:Array Value):laidMet Tryz.prog [("unicode/utf8.acceptRanges", Rows.laid_unicode_utf8_acceptRanges),("unicode/utf8.first", Rows.laid_unicode_utf8_first)] ((laidWorld os).forCall (fun _ _=>0) ⟨#[],args,[]⟩).memory:=
 (LaidIn.append (laid_a os args) (laid_b os args) (by kernel_rfl)).met
theorem accept_data:(Rows.laid_unicode_utf8_acceptRanges:DataW Unit)=acceptData:=by kernel_rfl
theorem tabs_of_laid {W:World} (h:laidMetH Tryz.prog [("unicode/utf8.acceptRanges", Rows.laid_unicode_utf8_acceptRanges),("unicode/utf8.first", Rows.laid_unicode_utf8_first)] W) (hs:W.ShapedOpen Tryz.prog):Tabs W:=by
 refine ⟨?_,Tryz.laysM146.s1_3 W hs⟩
 have h1:=Lib.laidMet.reads h (.head _)
 have h2:=Lib.laidMet.reads h (.tail _ (.head _))
 rw[accept_data] at h1
 rw[show Rows.laid_unicode_utf8_first=firstData from Pinned.utf8First_eq] at h2
 exact utf8Tabs_of_readsT (U8Types.of196 Tryz.lays196) ⟨by kernel_rfl,by kernel_rfl,by kernel_rfl,by kernel_rfl,by kernel_rfl,by kernel_rfl,by kernel_rfl⟩ h2 h1
theorem S_of (s:ByteArray):S s.data.toList = .string s:=by show Value.string ⟨s.data.toList.toArray⟩=_;rw[Lib.mk_data s]
theorem bulk_part {H:Type} {d:DataW H} {l:List (DataW H)} (h:d∈l):Rows.uptoBulk d≤Rows.uptoBulkAll l:=by
 induction l with
 | nil=>cases h
 | cons x r ih =>
  simp only[Rows.uptoBulkAll]
  cases List.mem_cons.1 h with
  | inl e=>subst e;omega
  | inr e=>have:=ih e;omega
theorem bulk_one {H:Type} (d:DataW H):1≤Rows.uptoBulk d:=by
 cases d with
 | lit l=>cases l <;> simp [Rows.uptoBulk]
 | nil=>simp [Rows.uptoBulk]
 | ptr d=>simp [Rows.uptoBulk]
 | slice elems spare=>simp [Rows.uptoBulk]
 | agg parts=>simp [Rows.uptoBulk]
 | iface t d=>simp [Rows.uptoBulk]
 | map entries=>simp [Rows.uptoBulk]
 | held x=>simp [Rows.uptoBulk]
theorem bulk_len {H:Type} (l:List (DataW H)):l.length≤Rows.uptoBulkAll l:=by
 induction l with
 | nil=>simp [Rows.uptoBulkAll]
 | cons x r ih=>have:=bulk_one x;simp only[Rows.uptoBulkAll,List.length_cons];omega
theorem bulk_str {H:Type} (bytes:List UInt8):Rows.uptoBulk (DataW.lit (H:=H) (.string bytes))=bytes.length+1:=by simp [Rows.uptoBulk]
theorem bulk_bound {H:Type} {l:List (DataW H)} (hk:Rows.uptoSmall H l=true):Rows.uptoBulkAll l≤1048576:=of_decide_eq_true hk
theorem bulk_slice {H:Type} (a b:List (DataW H)):Rows.uptoBulk (.slice a b)=Rows.uptoBulkAll a+Rows.uptoBulkAll b+1:=by simp [Rows.uptoBulk]
theorem int_lo {x:Int} (h:(Lit.int .i64 x).wf=true):-9223372036854775808≤x:=by have h1:IntKind.i64.min = -9223372036854775808:=rfl;simp [Lit.wf] at h;omega
theorem int_hi {x:Int} (h:(Lit.int .i64 x).wf=true):x≤9223372036854775807:=by have h1:IntKind.i64.max=9223372036854775807:=rfl;simp [Lit.wf] at h;omega
section
open Go.Lib Go.ChangeShapes Go.WideShapes Go.Deep Go.Joins Go.ChangeAt
variable {H:Type} {enc:TypeId×Value→H} {w:World} {base:Nat} {spare:Nat→Bool} {held:Bool}
theorem open_int1 {fuel:Nat} {u:Value} {x:DataW H×List MemPlace} (h:DataW.trod enc Tryz.prog w base spare held fuel 3 [u]=some x):∃ n,u=I n∧(Lit.int .i64 n).wf=true:=by
 obtain⟨n,e,_,hw⟩:=DataW.trod_int Tryz.underlying3 h
 exact ⟨n,by simpa using e,by first | exact hw.1 | exact hw | simpa using hw⟩
theorem open_str1 {fuel:Nat} {u:Value} {x:DataW H×List MemPlace} (h:DataW.trod enc Tryz.prog w base spare held fuel 9 [u]=some x):∃ l,u=S l∧x.1 = .lit (.string l):=by
 obtain⟨s,e,hx,_⟩:=DataW.trod_string Tryz.underlying9 h
 refine ⟨s.data.toList,?_,?_⟩
 ·rw[S_of];simpa using e
 ·rw[hx]
end
theorem TabsU.of {w:World} (h:Tabs w):TabsU w [1,2,0]:=by
 have hl:∀ (p:Addr) (v:Value),w.cell? p=some v→p.block<w.heap.size:=fun p v hc=>World.block_lt_of_cell? w p hc
 refine ⟨h,fun x hx=>?_,fun T w' k hT=>?_⟩
 ·simp only[List.mem_cons,List.not_mem_nil,or_false] at hx
  rcases hx with rfl | rfl | rfl
  ·exact hl _ _ (h.u8.1 0 (by decide))
  ·exact hl _ _ (h.u8.2 0 (by decide)).1
  ·obtain⟨m,hm⟩:=h.ml;exact hl _ _ hm
 ·have n1:1∉T:=fun hm=>hT _ hm (by simp)
  have n2:2∉T:=fun hm=>hT _ hm (by simp)
  have n3:0∉T:=fun hm=>hT _ hm (by simp)
  have hc:∀ (p:Addr) (v:Value),w.cell? p=some v→p.block∉T→w'.cell? p=some v:=fun p v h1 h2=>by rw[k.cell (hl p v h1) h2,h1]
  exact ⟨⟨fun c h1=>hc _ _ (h.u8.1 c h1) n1,fun i h1=>⟨hc _ _ (h.u8.2 i h1).1 n2,hc _ _ (h.u8.2 i h1).2 n2⟩⟩,by obtain⟨m,hm⟩:=h.ml;exact ⟨m,hc _ _ hm n3⟩⟩
end
theorem fopen16_arm (w:World) (pb:Nat) (Q:Ending→World→Prop) (h:Calls Tryz.prog 80 #[Ptr pb] w fun e w'=>(∃ sb:Nat,e = .returned (.tuple #[Ptr sb,I 0])∧∀ (ff:Nat) (w2:World),w'.heap.size≤ff→w2.cell? ⟨ff,0,none⟩=some (Ptr sb)→ff<w2.heap.size→Kept [] w' w2→Q (.returned (.tuple #[Ptr ff,I 0])) w2)∨(e = .returned (.tuple #[.pointer none,I 2])∧∀ w2,Kept [] w' w2→Q (.returned (.tuple #[.pointer none,I 2])) w2)) :
  Calls Tryz.prog 39 #[Ptr pb] w Q:=by
 have HO:=Lib.hid h
 have HF:=Lib.hid (fun W sb=>formed_ok W sb)
 have HN:=Lib.hid (fun W=>formed_dead W (.pointer none))
 clear h
 go_enter Tryz.func39,Tryz.ntmps39
 go_wp2_with (fail)
 refine HO.out.mono ?_
 rintro e w1 (⟨sb,rfl,hq⟩ | ⟨rfl,hq⟩)
 ·have HQ:=Lib.hid hq
  clear hq HO
  go_wp2_with (fail)
  refine (HF.out w1 sb).mono ?_
  rintro e w2 ⟨ff,rfl,g1,g2,g3,k2⟩
  have HR:=Lib.hid (HQ.out ff w2 g1 g2 g3 k2)
  clear g1 g2 g3 k2 HQ
  go_wp2_with (fail)
  exact HR.out
 ·have HQ:=Lib.hid hq
  clear hq HO
  go_wp2_with (fail)
  refine (HN.out w1).mono ?_
  rintro e w2 ⟨rfl,k2⟩
  have HR:=Lib.hid (HQ.out w2 k2)
  clear k2 HQ
  go_wp2_with (fail)
  exact HR.out
def FOpenK (w:World) (pb fb bb cb n:Nat) (st:KS) (f:Fl) (e:Ending) (w':World):Prop:=
 (∃ ff sb lb mb kb v f',e = .returned (.tuple #[Ptr ff,I 0])∧SAtK w' sb lb pb fb bb cb mb kb n v st f'∧StepOK f f'∧w.heap.size≤sb∧w.heap.size≤lb∧w.heap.size≤mb∧w.heap.size≤kb∧(∀ q,v.ownBlock=some q→w.heap.size≤q)∧Kept [fb,bb,cb] w w'∧w'.cell? ⟨ff,0,none⟩=some (Ptr sb)∧w.heap.size≤ff∧ff<w'.heap.size∧ff∉StT sb lb fb bb cb mb kb v) ∨
 (∃ g,e = .returned (.tuple #[.pointer none,I 2])∧StepDead f g∧FlAt w' fb bb cb g∧CrP n g st.M st.D∧Kept [fb,bb,cb] w w')
theorem fopen_arm (w:World) (pb fb bb cb n:Nat) (f:Fl) (st:KS) (h:PtAt w pb fb bb cb 1 n f) (ha:ArmOK f) (h8:8≤n) (hF:FlX n f st true) (hI:InvK n st) (hfree:st.init.length+2≤n) (hq:sumA wO st.M≤quotaF n) (hD:st.D≤900000000) :
  Calls Tryz.prog 39 #[Ptr pb] w (FOpenK w pb fb bb cb n st f):=by
 refine fopen16_arm w pb _ ((oopen_arm w pb fb bb cb n f st h ha h8 hF hI hfree hq hD).mono ?_)
 rintro e w1 (⟨sb,lb,mb,kb,v,f',rfl,hs,hso,b1,b2,b3,b4,b5,k⟩ | ⟨g,rfl,hsd,hf,hcr,k⟩)
 ·refine .inl ⟨sb,rfl,fun ff w2 g1 g2 g3 k2=>.inl ⟨ff,sb,lb,mb,kb,v,f',rfl,hs.same k2,hso,b1,b2,b3,b4,b5,k.trans' (k2.mono (by simp)),g2,by have:=k.size;omega,g3,fun hm=>?_⟩⟩
  have:=hs.lt.1 ff hm
  omega
 ·exact .inr ⟨rfl,fun w2 k2=>.inr ⟨g,rfl,hsd,hf.same k2,hcr,k.trans' (k2.mono (by simp))⟩⟩
def ReoPost16 (w:World) (fb bb cb n:Nat) (V1 V2:OM) (d:Nat) (e:Ending) (w':World):Prop:=
 ∃ (ff sb:Nat) (T:List Nat) (V:OM),e = .returned (Ptr ff)∧(V=V1∨V=V2)∧STK w' fb sb n V d T∧Kept [fb,bb,cb] w w'∧(∀ x∈T,x∈[fb,bb,cb]∨w.heap.size≤x)∧w'.cell? ⟨ff,0,none⟩=some (Ptr sb)∧w.heap.size≤ff∧ff<w'.heap.size∧ff∉T
theorem reopened16_any (w:World) (fb bb cb n:Nat) (g:Fl) (V1 V2:OM) (d:Nat) (h:FLK w fb bb cb n g V1 V2 d) (h8:8≤n) (hn:n≤255) (hs1:SortedA V1) (hs2:SortedA V2) (hq1:sumA wO V1≤quotaF n) (hq2:sumA wO V2≤quotaF n) (hd:d≤800000000) (kd on okp:Int) (pp pt ps:List UInt8) (mk:UInt8) :
  Calls Tryz.prog 12 #[Ptr fb,.agg #[I kd,I okp,I on,S pp,S pt,S ps,B mk]] w (ReoPost16 w fb bb cb n V1 V2 d):=by
 have hlt1:=h.1.lt
 have hlt2:=h.1.lt2
 have hlt3:=h.1.lt3
 obtain⟨W,hW⟩:∃ W,w.alloc (.cells #[I kd,I okp,I on,S pp,S pt,S ps,B mk] 31)=W:=⟨_,rfl⟩
 have k0:Kept [] w W:=by rw[← hW];exact (Kept.refl [] w).alloc _
 have hnew:W.heap[w.heap.size]? = some (.cells #[I kd,I okp,I on,S pp,S pt,S ps,B mk] 31 (0,0)):=by rw[← hW];exact heap_new w _
 obtain⟨ob,hob⟩:∃ ob,w.heap.size=ob:=⟨_,rfl⟩
 rw[hob] at hnew
 have hoW:ob<W.heap.size:=lt_of_block hnew
 have hno:ob∉[fb,bb,cb]:=by simp;omega
 have H0:=Lib.hid (And.intro h (And.intro h8 (And.intro hn (And.intro hs1 (And.intro hs2 (And.intro hq1 (And.intro hq2 (And.intro hd (And.intro k0 (And.intro hnew (And.intro hno hob)))))))))))
 have hm0:(0:Int)≤on%4:=by omega
 have hm4:on%4≤3:=by omega
 clear h h8 hn hs1 hs2 hq1 hq2 hd k0 hnew hno hlt1 hlt2 hlt3
 go_enter Tryz.func12,Tryz.ntmps12
 go_wp2_with (fail)
 go_loopw [5] (fun v5 wr=>∃ (k:Nat) (g:Fl),v5=I k∧k≤3∧FLK wr fb bb cb n g V1 V2 d∧Kept [fb,bb,cb] W wr) (fun v5 _=>4-(intOf v5).toNat)
 case atStart =>
  obtain⟨h,_,_,_,_,_,_,_,k0,_⟩:=H0.out
  exact ⟨0,g,rfl,by omega,⟨h.1.same k0,h.2⟩,Kept.refl _ _⟩
 case round =>
  obtain⟨k,g,rfl,hk3,hfl,kr⟩:=hrel
  have hkI:(k:Int)≤3:=by omega
  have hk4:(k:Int)<4:=by omega
  have HR:=Lib.hid (revive_any wr fb bb cb g hfl.1)
  have H1:=Lib.hid (And.intro hfl kr)
  have HOP:Hid (∀ (w1:World) (g2:Fl),FlAt w1 fb bb cb g2→ArmOK g2→g2.bs=g.bs→g2.cs=g.cs→Calls Tryz.prog 16 #[Ptr fb] w1 (fun e w2=>∃ pb:Nat,e = .returned (Ptr pb)∧(Kept [] w1 w2∧pb<w2.heap.size)∧Calls Tryz.prog 39 #[Ptr pb] w2 (fun e w3=>∃ V st,(V=V1∨V=V2)∧SortedA V∧GoodK n st∧(∀ k,valM st.M k=valM V k)∧st.D≤d∧FOpenK w2 pb fb bb cb n st g2 e w3∧w1.heap.size≤pb))):=Lib.hid (fun w1 g2 hf2 ha2 eb ec=>by
   obtain⟨h,h8,hn,hs1,hs2,hq1,hq2,hd,k0,hnew,hno,hob⟩:=H0.out
   refine (over16_any w1 fb bb cb n g2 hf2 (by omega) (by rw[ec];exact H1.out.1.2.2.1)).mono ?_
   rintro e w2 ⟨pb,rfl,hpb,hpt,k2⟩
   refine ⟨pb,rfl,⟨k2,lt_of_block hpt.blk⟩,?_⟩
   have hcr:∃ V,(V=V1∨V=V2)∧SortedA V∧sumA wO V≤quotaF n∧CrP n g2 V d:=by
    rcases H1.out.1.2.2.2 with hc | hc
    ·exact ⟨V1,.inl rfl,hs1,hq1,hc.bs eb⟩
    ·exact ⟨V2,.inr rfl,hs2,hq2,hc.bs eb⟩
   obtain⟨V,hV,hVs,hVq,st,c1,c2,c3,c4,c5⟩:=hcr
   have hqs:sumA wO st.M≤quotaF n:=by rw[weight_same c1.inv.sorted hVs c4];exact hVq
   refine (fopen_arm w2 pb fb bb cb n g2 st hpt ha2 h8 c2 c1 c3 hqs (by omega)).mono ?_
   intro e w3 hp
   exact ⟨V,st,hV,hVs,⟨h8,c3,hqs⟩,c4,c5,hp,hpb⟩)
  have HEND:Hid (∀ (w1 w2 w3:World) (pb:Nat) (V:OM) (st:KS) (g2 f':Fl) (ff sb lb mb kb:Nat) (v:Value),Kept [fb,bb,cb] wr w1→Kept [] w1 w2→w1.heap.size≤pb→(V=V1∨V=V2)→SortedA V→GoodK n st→(∀ k,valM st.M k=valM V k)→st.D≤d→g2.cs=g.cs→SAtK w3 sb lb pb fb bb cb mb kb n v st f'→StepOK g2 f'→w2.heap.size≤sb→w2.heap.size≤lb→w2.heap.size≤mb→w2.heap.size≤kb→(∀ q,v.ownBlock=some q→w2.heap.size≤q)→Kept [fb,bb,cb] w2 w3→w3.cell? ⟨ff,0,none⟩=some (Ptr sb)→w2.heap.size≤ff→ff<w3.heap.size→ff∉StT sb lb fb bb cb mb kb v→w.heap.size≤w1.heap.size→ff≠pb→Calls Tryz.prog 6 #[Ptr fb,I 0,I 0,.int .u8 0] w3 (fun e w4=>e = .returned (I 0)∧ReoPost16 w fb bb cb n V1 V2 d (.returned (Ptr ff)) w4)):=Lib.hid (by
   intro w1 w2 w3 pb V st g2 f' ff sb lb mb kb v k1 k2 hpb hV hVs hG hvl hD ec hs hso b1 b2 b3 b4 b5 k3 q1 q2 q3 q4 q5 q6
   obtain⟨h,h8,hn,hs1,hs2,hq1,hq2,hd,k0,hnew,hno,hob⟩:=H0.out
   have:=arm_yes w3 fb bb cb f' hs.lg.pt.fl hs.live.1 0 0 0 (by omega)
   refine Calls.mono this ?_
   rintro e w4 ⟨rfl,hf4,k4⟩
   have e4:=hs.arms k4 hf4 rfl rfl ⟨hs.live.1,by show (0:Int)≤0;omega,by show (0:Int)≤9223372036854775807;omega,by show (0:Int)≤max 0 0;omega⟩
   have z0:=k0.size
   have z1:=(H1.out.2.trans' k1).size
   have z2:=k2.size
   have hq4:ff∉[fb]:=fun hm=>q4 (by rw[List.mem_singleton.1 hm];simp [StT,LgT])
   refine ⟨rfl,ff,sb,_,V,rfl,hV,⟨bb,cb,pb,lb,mb,kb,v,st,_,rfl,e4,hG,hVs,hvl,hD,?_⟩,?_,fun x hx=>?_,kept_cell k4 q1 hq4,by omega,Nat.lt_of_lt_of_le q3 k4.size,fun hm=>(List.mem_cons.1 hm).elim q6 q4⟩
   ·show f'.cs.length=n+1
    rw[hso.cs,ec]
    exact H1.out.1.2.2.1
   ·exact ((k0.mono (by simp)).trans' (H1.out.2.trans' (k1.trans' ((k2.mono (by simp)).trans' (k3.trans' (k4.mono (by simp)))))))
   ·simp only[StT,LgT,List.mem_cons,List.mem_append,Option.mem_toList,List.not_mem_nil,or_false] at hx ⊢
    rcases hx with rfl | (rfl | rfl | rfl) | (rfl | rfl | rfl | rfl) | hx
    ·right;omega
    ·right;omega
    ·right;omega
    ·right;omega
    ·right;omega
    ·left;simp
    ·left;simp
    ·left;simp
    ·right;have:=b5 x hx;omega)
  have HARM:=Lib.hid (fun (w1:World) (g1:Fl) (hf1:FlAt w1 fb bb cb g1) (hd1:g1.dead=false) (N:Int) (hN:0≤N)=>arm_yes w1 fb bb cb g1 hf1 hd1 N okp mk hN)
  have hcl:∀ W',Kept [fb,bb,cb] W W'→W'.cell? ⟨ob,2,none⟩=some (I on)∧W'.cell? ⟨ob,1,none⟩=some (I okp)∧W'.cell? ⟨ob,6,none⟩=some (B mk):=fun W' kw=>by
   obtain⟨h,h8,hn,hs1,hs2,hq1,hq2,hd,k0,hnew,hno,hob⟩:=H0.out
   have hb:=kw.at hnew hno
   refine ⟨?_,?_,?_⟩ <;> (rw[cell_at hb];rfl)
  have HCL:=Lib.hid hcl
  clear hcl hfl kr
  go_wp2_with (fail)
  refine HR.out.mono ?_
  rintro e w1 ⟨rfl,hf1,k1⟩
  have HF1:=Lib.hid (And.intro hf1 k1)
  obtain⟨y1,y2,y3⟩:=HCL.out w1 (H1.out.2.trans' (k1.mono (by simp)))
  clear hf1 k1
  by_cases hlt:k<3
  ·have hltI:(k:Int)<3:=by omega
   obtain⟨A,hA⟩:∃ A:Int,1+(on+k)%4=A:=⟨_,rfl⟩
   have hA1:1≤A:=by omega
   have hA4:A≤4:=by omega
   have HA2:=Lib.hid (HARM.out w1 _ HF1.out.1 rfl A (by omega))
   have HA1:=Lib.hid (And.intro hA1 hA4)
   have hsum0:(0:Int)≤on%4+k:=by omega
   have hsum9:on%4+k≤6:=by omega
   clear hA1 hA4
   go_wp2_with (fail)
   refine HA2.out.mono ?_
   rintro e w2 ⟨rfl,hf2,k2⟩
   have HF2:=Lib.hid (And.intro hf2 k2)
   have HO2:=Lib.hid (HOP.out w2 _ hf2 ⟨rfl,by have:=HA1.out;show 0≤A;omega,by have:=HA1.out;show A≤9223372036854775807;omega,by show 0≤max 0 okp;omega⟩ rfl rfl)
   clear hf2 k2 hA y1 y2 y3
   go_wp2_with (fail)
   refine HO2.out.mono ?_
   rintro e w3 ⟨pb,rfl,k3,hop⟩
   have HO3:=Lib.hid (And.intro k3 hop)
   clear k3 hop
   go_wp2_with (fail)
   refine HO3.out.2.mono ?_
   rintro e w4 ⟨V,st,hV,hVs,hG,hvl,hD,hp,hpb⟩
   have k12:Kept [fb,bb,cb] wr w2:=(HF1.out.2.mono (by simp)).trans' (HF2.out.2.mono (by simp))
   rcases hp with ⟨ff,sb,lb,mb,kb,v,f',rfl,hs,hso,b1,b2,b3,b4,b5,k4,q1,q2,q3,q4⟩ | ⟨gd,rfl,hsd,hfd,hcr,k4⟩
   ·have HE2:=Lib.hid (HEND.out w2 w3 w4 pb V st _ f' ff sb lb mb kb v k12 HO3.out.1.1 hpb hV hVs hG hvl hD (by rfl) hs hso b1 b2 b3 b4 b5 k4 q1 q2 q3 q4 (by have h1:=(H0.out.2.2.2.2.2.2.2.2.1).size;have h2:=H1.out.2.size;have h3:=k12.size;omega) (by have:=HO3.out.1.2;omega))
    clear hV hVs hG hvl hD hpb hs hso b1 b2 b3 b4 b5 k4 k12 q1 q2 q3 q4
    go_wp2_with (fail)
    refine HE2.out.mono ?_
    rintro e w5 ⟨rfl,hP⟩
    have HP:=Lib.hid hP
    clear hP
    go_wp2_with (fail)
    go_ret
    exact HP.out
   ·have hfdd:=fdead_any w4 fb bb cb gd hfd
    rw[hsd.dead] at hfdd
    have HDD:=Lib.hid hfdd
    have HX:=Lib.hid (And.intro hV (And.intro hvl (And.intro hD (And.intro hsd (And.intro hfd (And.intro hcr (And.intro k4 k12)))))))
    clear hV hVs hG hvl hD hpb hsd hfd hcr k4 k12 hfdd
    go_wp2_with (fail)
    refine HDD.out.mono ?_
    rintro e w5 ⟨rfl,rfl⟩
    go_wp2_with (fail)
    go_roundw
    case rel =>
     obtain⟨hV,hvl,hD,hsd,hfd,hcr,k4,k12⟩:=HX.out
     have hcr2:=hcr.vals hvl hD
     refine ⟨k+1,gd,by go_num,by omega,⟨hfd,hsd.keep,?_,?_⟩,H1.out.2.trans' (k12.trans' ((HO3.out.1.1.mono (by simp)).trans' k4))⟩
     ·rw[hsd.cs]
      exact H1.out.1.2.2.1
     ·rcases hV with rfl | rfl
      ·exact .inl hcr2
      ·exact .inr hcr2
    case measure=>simp [intOf];omega
  ·have hltI:¬ (k:Int)<3:=by omega
   have hltb:decide ((k:Int)<3)=false:=decide_eq_false hltI
   have HO2:=Lib.hid (HOP.out w1 _ HF1.out.1 ⟨rfl,by show (0:Int)≤0;omega,by show (0:Int)≤9223372036854775807;omega,H1.out.1.2.1⟩ rfl rfl)
   clear y1 y2 y3
   go_wp2_with (fail)
   refine HO2.out.mono ?_
   rintro e w3 ⟨pb,rfl,k3,hop⟩
   have HO3:=Lib.hid (And.intro k3 hop)
   clear k3 hop
   go_wp2_with (fail)
   refine HO3.out.2.mono ?_
   rintro e w4 ⟨V,st,hV,hVs,hG,hvl,hD,hp,hpb⟩
   have k12:Kept [fb,bb,cb] wr w1:=HF1.out.2.mono (by simp)
   rcases hp with ⟨ff,sb,lb,mb,kb,v,f',rfl,hs,hso,b1,b2,b3,b4,b5,k4,q1,q2,q3,q4⟩ | ⟨gd,rfl,hsd,hfd,hcr,k4⟩
   ·have HE2:=Lib.hid (HEND.out w1 w3 w4 pb V st _ f' ff sb lb mb kb v k12 HO3.out.1.1 hpb hV hVs hG hvl hD (by rfl) hs hso b1 b2 b3 b4 b5 k4 q1 q2 q3 q4 (by have h1:=(H0.out.2.2.2.2.2.2.2.2.1).size;have h2:=H1.out.2.size;have h3:=k12.size;omega) (by have:=HO3.out.1.2;omega))
    clear hV hVs hG hvl hD hpb hs hso b1 b2 b3 b4 b5 k4 k12 q1 q2 q3 q4
    go_wp2_with (fail)
    refine HE2.out.mono ?_
    rintro e w5 ⟨rfl,hP⟩
    have HP:=Lib.hid hP
    clear hP
    go_wp2_with (fail)
    go_ret
    exact HP.out
   ·exact absurd rfl hsd.was
end Go.Proofs.YteplbljjlbdhaacGreatDoor
