/- Walks and lemmas on the program of this seat, used by its statements; each theorem bears its own conditions. -/
import Derived.Test.YteplbljjlbdhaacGreatDoorY50
namespace Go.Proofs.YteplbljjlbdhaacGreatDoor
open Go.RowKit
set_option linter.unusedVariables false
set_option linter.unusedSimpArgs false
set_option linter.unusedSectionVars false
set_option maxHeartbeats 16000000
set_option maxRecDepth 100000
def MidF (W:World) (wx:World) (ff fb sb n d i mb2:Nat) (M3:List Nat) (U:List Nat) (v5:Value):Prop:=
 ∃ (mx gx:Nat) (Ex:List Nd) (vx:Value) (gy:Nat) (Ey:List Nd) (vy:Value) (M:List Nat),v5=Ptr mx∧(∀ x∈M3,x∈M)∧Df wx mx n gx vx Ex M∧Df wx mb2 n gy vy Ey M∧(holdsF gy Ey gx Ex=true→∀ k,objF gy Ey k=objF gx Ex k)∧gx≤i+1∧Ex.length≤i+1∧gy≤i+1∧Ey.length≤i+1∧(LM W U (FS ff fb sb n d gx Ex U) wx M∨LM W U (FD fb n d gx Ex gy Ey) wx M)
theorem Df.more {w:World} {mb n given:Nat} {v:Value} {E:List Nd} {M M':List Nat} (h:Df w mb n given v E M) (hM:∀ x∈M,x∈M'):Df w mb n given v E M':=⟨h.1,hM _ h.2.1,fun q hq=>hM _ (h.2.2 q hq)⟩
theorem LM.adds {w0 w w':World} {U M:List Nat} {P:World→List Nat→Prop} (h:LM w0 U P w M) (k:Kept [] w w') (hP:∀ T,P w T→P w' T) (l:List Nat) (hl:∀ x∈l,w.heap.size≤x∧x<w'.heap.size):LM w0 U P w' (l++M):=
 h.aside k (by simp) (fun T hT _ _=>hP T hT) (fun x hx=>by
  rcases List.mem_append.1 hx with hx | hx
  ·exact .inr (hl x hx)
  ·exact .inl hx)
theorem keepsLaw_any (w:World) (U0:List Nat) (hU:TabsU w U0) (m:Int) (sv:Value) (l:List Op16) (hl:OpsAt16 w sv l) :
  Calls Tryz.prog 3 #[.agg #[I m,sv]] w fun e w'=>e = .returned (.bool true)∧Kept [] w w':=by
 obtain⟨lp,lc,lb,lo,rfl,hlp,hcells,hok,hll,hlc⟩:=hl
 obtain⟨W,hW⟩:∃ W,w.alloc (.cells #[I m,.slice lp l.length lc] 24)=W:=⟨_,rfl⟩
 have k0:Kept [] w W:=by rw[← hW];exact (Kept.refl _ _).alloc _
 have hnew:=heap_new w (.cells #[I m,.slice lp l.length lc] 24)
 rw[hW] at hnew
 obtain⟨ob,hob⟩:∃ ob,w.heap.size=ob:=⟨_,rfl⟩
 rw[hob] at hnew
 have c0:=cell_at hnew 0
 have c1:=cell_at hnew 1
 simp only[List.getElem?_toArray,List.getElem?_cons_zero,List.getElem?_cons_succ] at c0 c1
 have HLA:=Lib.hid (laid16_any W m)
 have hn8:=blk16_bound m
 obtain⟨n,hn⟩:∃ n,blk16 m=n:=⟨_,rfl⟩
 rw[hn] at HLA hn8
 have HN:=Lib.hid (And.intro hn8.1 hn8.2.1)
 have HU:=Lib.hid (And.intro (hU.same k0) k0)
 have HC:=Lib.hid (And.intro hlp (And.intro hcells hok))
 have C1:=Lib.hid c1
 have hlI:(l.length:Int)≤4611686018427387904:=by omega
 clear hU k0 hcells hlp hok hnew hn8 hn c1
 go_enter Tryz.func3,Tryz.ntmps3
 go_wp2_with (simp only[hW,hob];done)
 refine HLA.out.mono ?_
 intro e w2 hla
 obtain⟨fb,ff,mb,sb,rfl,hs,hD⟩:=laid_lf hla HU.out.1
 have hs1:∃ U,LM W U (FS ff fb sb n 0 0 [] U) w2 [mb]:=by
  obtain⟨V,T,U,h1,h2,h3,h4⟩:=hs
  exact ⟨U,T,⟨V,stz_of h1.st.stk,h1.cell,h1.sim,h1.wf,h1.gv,h1.tabs,h1.ffU,h1.sep,h1.dd⟩,fun x hx=>⟨h2 x hx,h1.st.stk.lt x hx⟩,h1.tabs,h1.sep,h3,h4⟩
 obtain⟨U1,hs1⟩:=hs1
 have H2:=Lib.hid (And.intro hs1 hD)
 clear hs hs1 hD hla HLA c0 hW hob
 go_wp2_with (fail)
 go_loopw [4,5,6] (fun v4 v5 v6 wr=>∃ (i ff sb mb g:Nat) (E:List Nd) (v:Value) (M U:List Nat),v6=I i∧v4=Ptr ff∧v5=Ptr mb∧i≤100∧g≤i∧E.length≤i∧LM W U (FS ff fb sb n (62*i) g E U) wr M∧Df wr mb n g v E M) (fun _ _ v6 _=>100-(intOf v6).toNat)
 case atStart=>exact ⟨0,ff,sb,mb,0,[],_,_,U1,rfl,rfl,rfl,by omega,Nat.le_refl _,Nat.le_refl _,H2.out.1,H2.out.2⟩
 case round =>
  clear H2
  obtain⟨i,ff,sb,mb,g,E,v,M,U,rfl,rfl,rfl,hi,hg,hE,hs,hD⟩:=hrel
  have k1:=hs.old
  have b1:=k1.cellOf C1.out
  have HS:=Lib.hid (And.intro hs hD)
  by_cases hgo:i<l.length∧i<100
  ·obtain⟨hlt,hlt2⟩:=hgo
   have hltI:(i:Int)<l.length:=by omega
   have hlt2I:(i:Int)<100:=by omega
   have hpe:=HC.out.1 (by intro h;rw[h] at hlt;simp at hlt)
   subst hpe
   have kk:=(HU.out.2.trans' hs.old)
   obtain⟨x0,x1,x2,x3,x4,x5,x6⟩:=HC.out.2.1 i hlt
   replace x0:=kk.cellOf x0
   replace x1:=kk.cellOf x1
   replace x2:=kk.cellOf x2
   replace x3:=kk.cellOf x3
   replace x4:=kk.cellOf x4
   replace x5:=kk.cellOf x5
   replace x6:=kk.cellOf x6
   have hoo:=HC.out.2.2 l[i] (List.getElem_mem hlt)
   obtain⟨o,ho⟩:∃ o,l[i]=o:=⟨_,rfl⟩
   rw[ho] at x0 x1 x2 x3 x4 x5 x6 hoo
   have HOO:=Lib.hid hoo
   obtain⟨kd,at0,n0,p,t,s,mk⟩:=o
   simp only at x0 x1 x2 x3 x4 x5 x6
   obtain⟨W2,hW2⟩:∃ W2,wr.alloc (.cells #[I kd,I at0,I n0,S p,S t,S s,B mk] 31)=W2:=⟨_,rfl⟩
   have hk2:=(Kept.refl [] wr).alloc (.cells #[I kd,I at0,I n0,S p,S t,S s,B mk] 31)
   have n2:=heap_new wr (.cells #[I kd,I at0,I n0,S p,S t,S s,B mk] 31)
   rw[hW2] at hk2 n2
   have hltb:=lt_of_block n2
   have hs2:=hs.adds hk2 (fun T hT=>fs_aside hk2 T hT (by simp) (by simp)) [wr.heap.size] (fun x hx=>by
    have:x=wr.heap.size:=by simpa using hx
    subst this
    exact ⟨Nat.le_refl _,hltb⟩)
   have hD2:Df W2 mb n g v E ([wr.heap.size]++M):=(hD.kept hk2 (by simp)).more (fun x hx=>List.mem_cons_of_mem _ hx)
   obtain⟨xb,hxb⟩:∃ xb,wr.heap.size=xb:=⟨_,rfl⟩
   rw[hxb] at n2 hs2 hltb hD2
   have hlt2m:=hs2.lt
   have HCP:=Lib.hid (rcopy16_any W2 mb n g v E hD2.1 (fun q hq=>hlt2m q (hD2.2.2 q hq)))
   have HS2:=Lib.hid (And.intro hs2 (And.intro hD2 n2))
   have hxm:mb≠xb:=by rw[← hxb];have:=hs.lt mb hD.2.1;omega
   have HXM:=Lib.hid hxm
   clear hs hD k1 kk hk2 n2 hltb hs2 hD2 hoo ho hlt2m hxm
   go_wp2_with (simp only[hW2,hxb];done)
   refine HCP.out.mono ?_
   rintro e w3 ⟨mb2,rfl,g1,g2,hDn,k3⟩
   have hs3:=HS2.out.1.adds k3 (fun T hT=>fs_aside k3 T hT (by simp) (by simp)) [mb2] (fun x hx=>by
    have:x=mb2:=by simpa using hx
    subst this
    exact ⟨g1,g2⟩)
   have hD3:=(HS2.out.2.1.kept k3 (by simp)).more (M':=[mb2]++([xb]++M)) (fun x hx=>List.mem_cons_of_mem _ hx)
   have hDn3:Df w3 mb2 n g v E ([mb2]++([xb]++M)):=⟨hDn,List.mem_cons_self,hD3.2.2⟩
   have hb3:=k3.at HS2.out.2.2 (by simp)
   have hne:mb2≠mb∧mb2≠xb:=by
    have h1:=HS2.out.2.1.1.lt
    have h2:=lt_of_block HS2.out.2.2
    omega
   have H3:=Lib.hid (And.intro hs3 (And.intro hD3 (And.intro hDn3 (And.intro hb3 hne))))
   have y0:=cell_at hb3 0
   simp only[List.getElem?_toArray,List.getElem?_cons_zero] at y0
   clear hs3 hD3 hDn hDn3 k3 hb3 hne g1 g2 HCP
   go_upto_region 9 with (fail)
   iterate 10 go_step
   go_cut [5] from 40 to 71 (fun v5 wx=>MidF W wx ff fb sb n (62*(i+1)) i mb2 ([mb2]++([xb]++M)) U v5∧wx.heap[xb]? = some (.cells #[I kd,I at0,I n0,S p,S t,S s,B mk] 31 (0,0)))
   case first =>
    have hxbm:xb∈[mb2]++([xb]++M):=by simp
    by_cases q9:kd=9
    ·have p9:(kd==9)=true:=by simpa using q9
     have z1:=cell_at H3.out.2.2.2.1 1
     have z2:=cell_at H3.out.2.2.2.1 2
     have z6:=cell_at H3.out.2.2.2.1 6
     simp only[List.getElem?_toArray,List.getElem?_cons_zero,List.getElem?_cons_succ] at z1 z2 z6
     have HA:=Lib.hid (lm_arm H3.out.1 n0 at0 mk HOO.out.n1.2)
     clear q9
     go_wp2_with (fail)
     refine HA.out.mono ?_
     rintro e w4 ⟨r,rfl,hl,hsz,T,hT,k⟩
     have H4:=Lib.hid (And.intro hl (And.intro hT k))
     clear hl hsz hT k z1 z2 z6 HA
     go_wp2_with (fail)
     go_meet
     obtain⟨hl,hT,k⟩:=H4.out
     exact ⟨⟨mb,g,E,v,g,E,v,_,rfl,fun x hx=>hx,H3.out.2.1.kept k hT,H3.out.2.2.1.kept k hT,fun _ _=>rfl,by omega,by omega,by omega,by omega,.inl (hl.imp (fun T hT=>hT.mono (by omega) (by omega)))⟩,k.at H3.out.2.2.2.1 (hT _ hxbm)⟩
    have p9:(kd==9)=false:=by simpa using q9
    by_cases q10:kd=10
    ·have p10:(kd==10)=true:=by simpa using q10
     have HA:=Lib.hid (lm_crash H3.out.1 g E)
     clear q9 q10
     go_wp2_with (fail)
     refine HA.out.mono ?_
     rintro e w4 ⟨rfl,hl,hsz,T,hT,k⟩
     have H4:=Lib.hid (And.intro hl (And.intro hT k))
     clear hl hsz hT k HA
     go_wp2_with (fail)
     go_meet
     obtain⟨hl,hT,k⟩:=H4.out
     exact ⟨⟨mb,g,E,v,g,E,v,_,rfl,fun x hx=>hx,H3.out.2.1.kept k hT,H3.out.2.2.1.kept k hT,fun _ _=>rfl,by omega,by omega,by omega,by omega,.inr (hl.imp (fun T hT=>hT.mono (by omega)))⟩,k.at H3.out.2.2.2.1 (hT _ hxbm)⟩
    have p10:(kd==10)=false:=by simpa using q10
    have HCH:=Lib.hid (change_gen (X0:=LM W U (FS ff fb sb n (62*i) g E U)) (X1:=X1K W U ff fb sb n (62*i+2*(n+1)) g E (changeF n g E ⟨kd,at0,n0,p,t,s,mk⟩)) (fs_ok mb2) (fun r=>x1k_ok mb2 r) w3 H3.out.1 H3.out.2.2.1 ⟨kd,at0,n0,p,t,s,mk⟩ HOO.out (lm_code (by omega) (by omega) (by have:=HN.out;omega) _ HOO.out) (by omega) (by omega))
    have HG:=Lib.hid (change_grown (n:=n) H3.out.2.1.1.wf ⟨kd,at0,n0,p,t,s,mk⟩)
    have HAP:=Lib.hid (change_apart (n:=n) H3.out.2.1.1.wf ⟨kd,at0,n0,p,t,s,mk⟩)
    obtain⟨R,hR⟩:∃ R,changeF n g E ⟨kd,at0,n0,p,t,s,mk⟩=R:=⟨_,rfl⟩
    rw[hR] at HCH HG HAP
    unfold Op16.cs at HCH
    simp only at HCH
    have z1:=cell_at H3.out.2.2.2.1 1
    have z2:=cell_at H3.out.2.2.2.1 2
    have z3:=cell_at H3.out.2.2.2.1 3
    have z4:=cell_at H3.out.2.2.2.1 4
    have z5:=cell_at H3.out.2.2.2.1 5
    have z6:=cell_at H3.out.2.2.2.1 6
    simp only[List.getElem?_toArray,List.getElem?_cons_zero,List.getElem?_cons_succ] at z1 z2 z3 z4 z5 z6
    clear hR q9 q10
    go_wp2_with (fail)
    refine HCH.out.mono ?_
    rintro e w4 ⟨r,rfl,v',M',hM,hx,hD',hk⟩
    have hb4:=hk xb hxbm (fun e=>H3.out.2.2.2.2.2 e.symm) _ H3.out.2.2.2.1
    have hDm4:Df w4 mb n g v E M':=H3.out.2.1.beside (fun x hx hor b hb=>hk x hx (fun e=>by
     rcases hor with h | h
     ·exact H3.out.2.2.2.2.1 (e.symm.trans h)
     ·exact H3.out.2.2.1.1.own x h e) b hb) hM
    have HD4:=Lib.hid (And.intro hb4 (And.intro hDm4 (And.intro hD' hM)))
    have hbd:62*i+2*(n+1)≤62*(i+1)∧62*(i+1)≤600000000:=by have:=HN.out;omega
    have HBD:=Lib.hid hbd
    clear hb4 hDm4 hM hk HCH z1 z2 z3 z4 z5 z6 y0 hbd
    rcases hx with ⟨rfl,hlm⟩ | ⟨rfl,hlm⟩
    ·by_cases hz:R.1=0
     ·have hzb:(R.1==0)=true:=by simpa using hz
      have hlt4:=hlm.lt
      have HCP:=Lib.hid (rcopy16_any w4 mb2 n R.2.1 v' R.2.2 hD'.1 (fun q hq=>hlt4 q (hD'.2.2 q hq)))
      have HL4:=Lib.hid hlm
      clear hD' hlm hlt4 hz
      go_wp2_with (fail)
      refine HCP.out.mono ?_
      rintro e w5 ⟨mb3,rfl,g1,g2,hD3,k5⟩
      have H5:=Lib.hid (And.intro (And.intro g1 g2) (And.intro hD3 k5))
      clear g1 g2 hD3 k5 HCP
      go_wp2_with (fail)
      go_meet
      obtain⟨⟨g1,g2⟩,hD3,k5⟩:=H5.out
      obtain⟨hb4,hDm4,hD',hM⟩:=HD4.out
      have hl5:=HL4.out.adds k5 (fun T hT=>fs_aside k5 T hT (by simp) (by simp)) [mb3] (fun x hx=>by
       have:x=mb3:=by simpa using hx
       subst this
       exact ⟨g1,g2⟩)
      have hgv:=HG.out.gv
      have hfw:=HG.out.few
      exact ⟨⟨mb3,R.2.1,R.2.2,v',R.2.1,R.2.2,v',[mb3]++M',rfl,fun x hx=>List.mem_cons_of_mem _ (hM x hx),⟨hD3,List.mem_cons_self,fun q hq=>List.mem_cons_of_mem _ (hD'.2.2 q hq)⟩,(hD'.kept k5 (by simp)).more (fun x hx=>List.mem_cons_of_mem _ hx),fun _ _=>rfl,by omega,by omega,by omega,by omega,.inl (hl5.imp (fun T hT=>hT.mono HBD.out.1 HBD.out.2))⟩,k5.at hb4 (by simp)⟩
     ·have hzb:(R.1==0)=false:=by simpa using hz
      have hno:=HG.out.no hz
      have HL4:=Lib.hid (And.intro hlm hno)
      clear hD' hlm hz hno
      go_wp2_with (fail)
      go_meet
      obtain⟨hb4,hDm4,hD',hM⟩:=HD4.out
      obtain⟨hlm,hno⟩:=HL4.out
      rw[hno] at hlm hD'
      exact ⟨⟨mb,g,E,v,g,E,v',M',rfl,hM,hDm4,hD',fun _ _=>rfl,by omega,by omega,by omega,by omega,.inl (hlm.imp (fun T hT=>hT.mono HBD.out.1 HBD.out.2))⟩,hb4⟩
    ·have HL4:=Lib.hid hlm
     clear hD' hlm
     have h2:(((2:Int) != R.1)=true)∨(((2:Int) != R.1)=false):=by cases ((2:Int) != R.1) <;> simp
     rcases h2 with h2 | h2
     all_goals
      go_wp2_with (fail)
      go_meet
      obtain⟨hb4,hDm4,hD',hM⟩:=HD4.out
      have hgv:=HG.out.gv
      have hfw:=HG.out.few
      exact ⟨⟨mb,g,E,v,R.2.1,R.2.2,v',M',rfl,hM,hDm4,hD',HAP.out,by omega,by omega,by omega,by omega,.inr (HL4.out.imp (fun T hT=>hT.mono HBD.out.1))⟩,hb4⟩
   case rest =>
    clear y0
    obtain⟨⟨mx,gx,Ex,vx,gy,Ey,vy,M5,rfl,hM,hDx,hDy,hap,b1',b2',b3',b4',hlw⟩,hbo⟩:=hcut
    have HB:=Lib.hid (And.intro b1' (And.intro b2' (And.intro b3' b4')))
    have hxb5:xb∈M5:=hM xb (by simp)
    clear b1' b2' b3' b4' hM
    rcases hlw with hlw | hlw
    ·have HFD:=Lib.hid (lm_fdead hlw)
     have HSD:=Lib.hid (lm_dead hlw)
     have hho:=rholds_any wc (lm_rdf hlw) hDx.1
     rw[holdsF_self hDx.1.wf] at hho
     have HHO:=Lib.hid hho
     have HE:=Lib.hid (And.intro hlw hDx)
     clear hho hlw hDx hDy hap hbo hxb5
     go_wp2_with (fail)
     refine HFD.out.mono ?_
     rintro e w5 ⟨rfl,hw⟩
     replace hw:=hw.symm
     subst hw
     go_wp2_with (fail)
     refine HSD.out.mono ?_
     rintro e w5 ⟨rfl,hw⟩
     replace hw:=hw.symm
     subst hw
     go_wp2_with (fail)
     refine HHO.out.mono ?_
     rintro e w5 ⟨rfl,k5⟩
     have K5:=Lib.hid k5
     clear k5
     go_wp2_with (fail)
     go_roundw
     case rel =>
      obtain⟨hlw,hDx⟩:=HE.out
      have k5:=K5.out
      obtain⟨b1',b2',b3',b4'⟩:=HB.out
      exact ⟨i+1,ff,sb,mx,gx,Ex,vx,M5,U,by go_num,rfl,rfl,by omega,by omega,by omega,hlw.aside k5 (by simp) (fun T hT a b=>fs_aside k5 T hT a b) (fun x hx=>.inl hx),hDx.kept k5 (by simp)⟩
     case measure=>simp [intOf];omega
    ·have HFD:=Lib.hid (lm_gdead hlw)
     have g0:=cell_at hbo 0
     have g1:=cell_at hbo 1
     have g2:=cell_at hbo 2
     have g3:=cell_at hbo 3
     have g4:=cell_at hbo 4
     have g5:=cell_at hbo 5
     have g6:=cell_at hbo 6
     simp only[List.getElem?_toArray,List.getElem?_cons_zero,List.getElem?_cons_succ] at g0 g1 g2 g3 g4 g5 g6
     have HRO:=Lib.hid (lm_reopened hlw hDx.1.wf hDy.1.wf (by have:=HB.out;omega) (by have:=HB.out;omega) (by omega) kd n0 at0 p t s mk)
     have HE:=Lib.hid (And.intro hDx (And.intro hDy hap))
     clear hlw hDx hDy hap hbo hxb5
     go_wp2_with (fail)
     refine HFD.out.mono ?_
     rintro e w5 ⟨rfl,hw⟩
     replace hw:=hw.symm
     subst hw
     go_wp2_with (fail)
     refine HRO.out.mono ?_
     rintro e w6 ⟨ff',sb',bb,rfl,hlw6,hsz,T6,hT6,k6⟩
     have hDx6:=HE.out.1.kept k6 hT6
     have hDy6:=HE.out.2.1.kept k6 hT6
     clear g0 g1 g2 g3 g4 g5 g6 HRO HFD hsz hT6 k6
     have hcase:LM W (ff'::U) (FS ff' fb sb' n (62*(i+1)) gx Ex (ff'::U)) w6 M5∨(holdsF gy Ey gx Ex=false∧LM W (ff'::U) (FS ff' fb sb' n (62*(i+1)) gy Ey (ff'::U)) w6 M5):=by
      cases bb with
      | true=>exact .inl hlw6
      | false =>
       cases hh:holdsF gy Ey gx Ex with
       | true=>exact .inl (lm_same hlw6 (HE.out.2.2 hh) hDx6.1.wf (by have:=HB.out;omega))
       | false=>exact .inr ⟨rfl,hlw6⟩
     clear hlw6
     rcases hcase with hlw6 | ⟨hh,hlw6⟩
     ·have hrd:=lm_rdf hlw6
      have HHO:Hid (∀ W',Kept [] w6 W'→Calls Tryz.prog 11 #[Ptr ff',Ptr mx] W' fun e w'=>e = .returned (.bool true)∧Kept [] W' w'):=Lib.hid (fun W' k=>by
       have:=rholds_any W' (hrd.same k) (hDx6.kept k (by simp)).1
       rw[holdsF_self hDx6.1.wf] at this
       exact this)
      have HE6:=Lib.hid (And.intro hlw6 hDx6)
      clear hlw6 hrd hDx6 hDy6
      go_wp2_with (fail)
      refine (HHO.out _ (Kept.refl _ _)).mono ?_
      rintro e w7 ⟨rfl,k7⟩
      have K7:=Lib.hid k7
      clear k7
      go_wp2_with (fail)
      refine (HHO.out _ K7.out).mono ?_
      rintro e w8 ⟨rfl,k8⟩
      have K8:=Lib.hid (K7.out.trans' k8)
      clear k8
      go_wp2_with (fail)
      go_roundw
      case rel =>
       obtain⟨hlw6,hDx6⟩:=HE6.out
       have k8:=K8.out
       obtain⟨b1',b2',b3',b4'⟩:=HB.out
       exact ⟨i+1,ff',sb',mx,gx,Ex,vx,M5,ff'::U,by go_num,rfl,rfl,by omega,by omega,by omega,hlw6.aside k8 (by simp) (fun T hT a b=>fs_aside k8 T hT a b) (fun x hx=>.inl hx),hDx6.kept k8 (by simp)⟩
      case measure=>simp [intOf];omega
     ·have hrd:=lm_rdf hlw6
      have HHN:Hid (∀ W',Kept [] w6 W'→Calls Tryz.prog 11 #[Ptr ff',Ptr mx] W' fun e w'=>e = .returned (.bool false)∧Kept [] W' w'):=Lib.hid (fun W' k=>by
       have:=rholds_any W' (hrd.same k) (hDx6.kept k (by simp)).1
       rw[hh] at this
       exact this)
      have HHO:Hid (∀ W',Kept [] w6 W'→Calls Tryz.prog 11 #[Ptr ff',Ptr mb2] W' fun e w'=>e = .returned (.bool true)∧Kept [] W' w'):=Lib.hid (fun W' k=>by
       have:=rholds_any W' (hrd.same k) (hDy6.kept k (by simp)).1
       rw[holdsF_self hDy6.1.wf] at this
       exact this)
      have HE6:=Lib.hid (And.intro hlw6 hDy6)
      clear hlw6 hrd hDx6 hDy6 hh
      go_wp2_with (fail)
      refine (HHN.out _ (Kept.refl _ _)).mono ?_
      rintro e w7 ⟨rfl,k7⟩
      have K7:=Lib.hid k7
      clear k7
      go_wp2_with (fail)
      refine (HHO.out _ K7.out).mono ?_
      rintro e w8 ⟨rfl,k8⟩
      have K8:=Lib.hid (K7.out.trans' k8)
      clear k8
      go_wp2_with (fail)
      refine (HHN.out _ K8.out).mono ?_
      rintro e w9 ⟨rfl,k9⟩
      have K9:=Lib.hid (K8.out.trans' k9)
      clear k9
      go_wp2_with (fail)
      go_roundw
      case rel =>
       obtain⟨hlw6,hDy6⟩:=HE6.out
       have k9:=K9.out
       obtain⟨b1',b2',b3',b4'⟩:=HB.out
       exact ⟨i+1,ff',sb',mb2,gy,Ey,vy,M5,ff'::U,by go_num,rfl,rfl,by omega,by omega,by omega,hlw6.aside k9 (by simp) (fun T hT a b=>fs_aside k9 T hT a b) (fun x hx=>.inl hx),hDy6.kept k9 (by simp)⟩
      case measure=>simp [intOf];omega
  ·have hstop:(l.length:Int)≤i∨((i:Int)<l.length∧(100:Int)≤i):=by
    by_cases h1:i<l.length
    ·right
     have:¬ i<100:=fun h2=>hgo ⟨h1,h2⟩
     omega
    ·left;omega
   have HF:=Lib.hid (fixed16_any wr U hs.tabs)
   clear hs hD k1 hgo
   generalize l.length=LL at b1 hlI hstop ⊢
   rcases hstop with hst | ⟨hst,hst2⟩
   all_goals
    go_wp2_with (fail)
    refine HF.out.mono ?_
    rintro e w9 ⟨rfl,k9⟩
    have HKK:=Lib.hid ((HU.out.2.trans' HS.out.1.old).trans' k9)
    clear k9
    go_wp2_with (fail)
    go_ret
    exact ⟨rfl,HKK.out⟩
end Go.Proofs.YteplbljjlbdhaacGreatDoor
