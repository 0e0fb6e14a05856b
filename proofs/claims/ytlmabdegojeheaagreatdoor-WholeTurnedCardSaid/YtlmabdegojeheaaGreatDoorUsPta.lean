/- WholeTurned: parts of its proof (Us Gz Pta). -/
import Derived.Test.YtlmabdegojeheaaGreatDoorAa
import Derived.Test.YtlmabdegojeheaaGreatDoorProg
import Derived.Shelf.SlSortCmp.NoneTotal
import Derived.Test.YtlmabdegojeheaaGreatDoorZfNt
import Derived.Test.YtlmabdegojeheaaGreatDoorGcS5
import Derived.Test.YtlmabdegojeheaaGreatDoorZbZh
namespace Go.Proofs
open YtlmabdegojeheaaGreatDoor (xj wx ww wq vj Zk)
open Go.Shelf
def Tryz.Bs:Go.Shelf.Ren:=⟨fun|6=>42|15=>81|14=>80|28=>136|29=>137|20=>128|21=>129|22=>130|23=>131|24=>132|25=>133|26=>134|27=>135|46=>187|47=>188|48=>189|49=>190|50=>191|57=>249|n=>n,fun|22=>76|24=>71|25=>83|3=>3|39=>172|0=>0|53=>225|55=>107|4=>4|46=>218|45=>217|50=>222|5=>5|9=>9|66=>294|70=>298|76=>342|77=>193|n=>n,fun|n=>n⟩
theorem Tryz.PB:Go.Proofs.SlLaysF0.n6 Tryz.prog Tryz.Bs:={
 mixed:=by kernel_rfl
 f6:=⟨Tryz.f42.name,by decide,Tryz.func42.trans (congrArg some wq)⟩
 f14:=⟨Tryz.f80.name,by decide,Tryz.func80.trans (congrArg some wq)⟩
 f15:=Tryz.func81.trans (congrArg some wq)
 f20:=⟨Tryz.f128.name,by decide,Tryz.func128.trans (congrArg some wq)⟩
 f21:=⟨Tryz.f129.name,by decide,Tryz.func129.trans (congrArg some wq)⟩
 f22:=⟨Tryz.f130.name,by decide,Tryz.func130.trans (congrArg some wq)⟩
 f23:=⟨Tryz.f131.name,by decide,Tryz.func131.trans (congrArg some wq)⟩
 f24:=⟨Tryz.f132.name,by decide,Tryz.func132.trans (congrArg some wq)⟩
 f25:=⟨Tryz.f133.name,by decide,Tryz.func133.trans (congrArg some wq)⟩
 f26:=⟨Tryz.f134.name,by decide,Tryz.func134.trans (congrArg some wq)⟩
 f27:=⟨Tryz.f135.name,by decide,Tryz.func135.trans (congrArg some wq)⟩
 f28:=Tryz.func136.trans (congrArg some wq)
 f29:=Tryz.func137.trans (congrArg some wq)
 f46:=⟨Tryz.f187.name,by decide,Tryz.func187.trans (congrArg some wq)⟩
 f47:=Tryz.func188.trans (congrArg some wq)
 f48:=Tryz.func189.trans (congrArg some wq)
 f49:=⟨Tryz.f190.name,by decide,Tryz.func190.trans (congrArg some wq)⟩
 f50:=⟨Tryz.f191.name,by decide,Tryz.func191.trans (congrArg some wq)⟩
 f57:=⟨Tryz.f249.name,by decide,Tryz.func249.trans (congrArg some wq)⟩
 t0:=Tryz.underlying0
 a0:=Tryz.isAgg0
 z0:=Tryz.sizeOf0
 v0:=Tryz.zeroValue0
 t3:=Tryz.underlying3
 a3:=Tryz.isAgg3
 z3:=Tryz.sizeOf3
 v3:=Tryz.zeroValue3
 t4:=Tryz.underlying4
 a4:=Tryz.isAgg4
 z4:=Tryz.sizeOf4
 v4:=Tryz.zeroValue4
 t5:=Tryz.underlying5
 a5:=Tryz.isAgg5
 z5:=Tryz.sizeOf5
 v5:=Tryz.zeroValue5
 t9:=Tryz.underlying9
 a9:=Tryz.isAgg9
 z9:=Tryz.sizeOf9
 v9:=Tryz.zeroValue9
 t22:=Tryz.underlying76
 a22:=Tryz.isAgg76
 z22:=Tryz.sizeOf76
 v22:=Tryz.zeroValue76
 t25:=Tryz.underlying83
 a25:=Tryz.isAgg83
 z25:=Tryz.sizeOf83
 v25:=Tryz.zeroValue83
 t39:=Tryz.underlying172
 a39:=Tryz.isAgg172
 z39:=Tryz.sizeOf172
 v39:=Tryz.zeroValue172
 t45:=Tryz.underlying217
 a45:=Tryz.isAgg217
 z45:=Tryz.sizeOf217
 v45:=Tryz.zeroValue217
 t46:=Tryz.underlying218
 a46:=Tryz.isAgg218
 z46:=Tryz.sizeOf218
 v46:=Tryz.zeroValue218
 t50:=Tryz.underlying222
 a50:=Tryz.isAgg222
 z50:=Tryz.sizeOf222
 v50:=Tryz.zeroValue222
 t53:=Tryz.underlying225
 a53:=Tryz.isAgg225
 z53:=Tryz.sizeOf225
 v53:=Tryz.zeroValue225
 t55:=Tryz.underlying107
 a55:=Tryz.isAgg107
 z55:=Tryz.sizeOf107
 v55:=Tryz.zeroValue107
 t66:=Tryz.underlying294
 a66:=Tryz.isAgg294
 z66:=Tryz.sizeOf294
 v66:=Tryz.zeroValue294
 t70:=Tryz.underlying298
 a70:=Tryz.isAgg298
 z70:=Tryz.sizeOf298
 v70:=Tryz.zeroValue298
 t76:=Tryz.underlying342
 a76:=Tryz.isAgg342
 z76:=Tryz.sizeOf342
 v76:=Tryz.zeroValue342
 t77:=Tryz.underlying193
 a77:=Tryz.isAgg193
 z77:=Tryz.sizeOf193
 v77:=Tryz.zeroValue193 }
def Tryz.Bt:Go.Shelf.Ren:=⟨fun|6=>61|15=>81|14=>103|28=>136|29=>137|20=>152|21=>153|22=>154|23=>155|24=>156|25=>157|26=>158|27=>159|46=>221|47=>188|48=>189|49=>222|50=>223|57=>282|n=>n,fun|22=>100|24=>104|25=>149|3=>3|39=>172|0=>0|53=>225|55=>107|4=>4|46=>218|45=>217|50=>222|5=>5|9=>9|66=>294|70=>298|76=>342|77=>193|n=>n,fun|n=>n⟩
theorem Tryz.PC:Go.Proofs.SlLaysF0.n6 Tryz.prog Tryz.Bt:={
 mixed:=by kernel_rfl
 f6:=⟨Tryz.f61.name,by decide,Tryz.func61.trans (congrArg some wq)⟩
 f14:=⟨Tryz.f103.name,by decide,Tryz.func103.trans (congrArg some wq)⟩
 f15:=Tryz.func81.trans (congrArg some wq)
 f20:=⟨Tryz.f152.name,by decide,Tryz.func152.trans (congrArg some wq)⟩
 f21:=⟨Tryz.f153.name,by decide,Tryz.func153.trans (congrArg some wq)⟩
 f22:=⟨Tryz.f154.name,by decide,Tryz.func154.trans (congrArg some wq)⟩
 f23:=⟨Tryz.f155.name,by decide,Tryz.func155.trans (congrArg some wq)⟩
 f24:=⟨Tryz.f156.name,by decide,Tryz.func156.trans (congrArg some wq)⟩
 f25:=⟨Tryz.f157.name,by decide,Tryz.func157.trans (congrArg some wq)⟩
 f26:=⟨Tryz.f158.name,by decide,Tryz.func158.trans (congrArg some wq)⟩
 f27:=⟨Tryz.f159.name,by decide,Tryz.func159.trans (congrArg some wq)⟩
 f28:=Tryz.func136.trans (congrArg some wq)
 f29:=Tryz.func137.trans (congrArg some wq)
 f46:=⟨Tryz.f221.name,by decide,Tryz.func221.trans (congrArg some wq)⟩
 f47:=Tryz.func188.trans (congrArg some wq)
 f48:=Tryz.func189.trans (congrArg some wq)
 f49:=⟨Tryz.f222.name,by decide,Tryz.func222.trans (congrArg some wq)⟩
 f50:=⟨Tryz.f223.name,by decide,Tryz.func223.trans (congrArg some wq)⟩
 f57:=⟨Tryz.f282.name,by decide,Tryz.func282.trans (congrArg some wq)⟩
 t0:=Tryz.underlying0
 a0:=Tryz.isAgg0
 z0:=Tryz.sizeOf0
 v0:=Tryz.zeroValue0
 t3:=Tryz.underlying3
 a3:=Tryz.isAgg3
 z3:=Tryz.sizeOf3
 v3:=Tryz.zeroValue3
 t4:=Tryz.underlying4
 a4:=Tryz.isAgg4
 z4:=Tryz.sizeOf4
 v4:=Tryz.zeroValue4
 t5:=Tryz.underlying5
 a5:=Tryz.isAgg5
 z5:=Tryz.sizeOf5
 v5:=Tryz.zeroValue5
 t9:=Tryz.underlying9
 a9:=Tryz.isAgg9
 z9:=Tryz.sizeOf9
 v9:=Tryz.zeroValue9
 t22:=Tryz.underlying100
 a22:=Tryz.isAgg100
 z22:=Tryz.sizeOf100
 v22:=Tryz.zeroValue100
 t25:=Tryz.underlying149
 a25:=Tryz.isAgg149
 z25:=Tryz.sizeOf149
 v25:=Tryz.zeroValue149
 t39:=Tryz.underlying172
 a39:=Tryz.isAgg172
 z39:=Tryz.sizeOf172
 v39:=Tryz.zeroValue172
 t45:=Tryz.underlying217
 a45:=Tryz.isAgg217
 z45:=Tryz.sizeOf217
 v45:=Tryz.zeroValue217
 t46:=Tryz.underlying218
 a46:=Tryz.isAgg218
 z46:=Tryz.sizeOf218
 v46:=Tryz.zeroValue218
 t50:=Tryz.underlying222
 a50:=Tryz.isAgg222
 z50:=Tryz.sizeOf222
 v50:=Tryz.zeroValue222
 t53:=Tryz.underlying225
 a53:=Tryz.isAgg225
 z53:=Tryz.sizeOf225
 v53:=Tryz.zeroValue225
 t55:=Tryz.underlying107
 a55:=Tryz.isAgg107
 z55:=Tryz.sizeOf107
 v55:=Tryz.zeroValue107
 t66:=Tryz.underlying294
 a66:=Tryz.isAgg294
 z66:=Tryz.sizeOf294
 v66:=Tryz.zeroValue294
 t70:=Tryz.underlying298
 a70:=Tryz.isAgg298
 z70:=Tryz.sizeOf298
 v70:=Tryz.zeroValue298
 t76:=Tryz.underlying342
 a76:=Tryz.isAgg342
 z76:=Tryz.sizeOf342
 v76:=Tryz.zeroValue342
 t77:=Tryz.underlying193
 a77:=Tryz.isAgg193
 z77:=Tryz.sizeOf193
 v77:=Tryz.zeroValue193 }
def Tryz.EF:Go.Shelf.Ren:=⟨fun|6=>66|15=>81|14=>113|28=>136|29=>137|20=>168|21=>169|22=>170|23=>171|24=>172|25=>173|26=>174|27=>175|46=>230|47=>188|48=>189|49=>231|50=>232|57=>286|n=>n,fun|22=>69|24=>115|25=>157|3=>3|39=>172|0=>0|53=>225|55=>107|4=>4|46=>218|45=>217|50=>222|5=>5|9=>9|66=>294|70=>298|76=>342|77=>193|n=>n,fun|n=>n⟩
theorem Tryz.UK:Go.Proofs.SlLaysF0.n6 Tryz.prog Tryz.EF:={
 mixed:=by kernel_rfl
 f6:=⟨Tryz.f66.name,by decide,Tryz.func66.trans (congrArg some wq)⟩
 f14:=⟨Tryz.f113.name,by decide,Tryz.func113.trans (congrArg some wq)⟩
 f15:=Tryz.func81.trans (congrArg some wq)
 f20:=⟨Tryz.f168.name,by decide,Tryz.func168.trans (congrArg some wq)⟩
 f21:=⟨Tryz.f169.name,by decide,Tryz.func169.trans (congrArg some wq)⟩
 f22:=⟨Tryz.f170.name,by decide,Tryz.func170.trans (congrArg some wq)⟩
 f23:=⟨Tryz.f171.name,by decide,Tryz.func171.trans (congrArg some wq)⟩
 f24:=⟨Tryz.f172.name,by decide,Tryz.func172.trans (congrArg some wq)⟩
 f25:=⟨Tryz.f173.name,by decide,Tryz.func173.trans (congrArg some wq)⟩
 f26:=⟨Tryz.f174.name,by decide,Tryz.func174.trans (congrArg some wq)⟩
 f27:=⟨Tryz.f175.name,by decide,Tryz.func175.trans (congrArg some wq)⟩
 f28:=Tryz.func136.trans (congrArg some wq)
 f29:=Tryz.func137.trans (congrArg some wq)
 f46:=⟨Tryz.f230.name,by decide,Tryz.func230.trans (congrArg some wq)⟩
 f47:=Tryz.func188.trans (congrArg some wq)
 f48:=Tryz.func189.trans (congrArg some wq)
 f49:=⟨Tryz.f231.name,by decide,Tryz.func231.trans (congrArg some wq)⟩
 f50:=⟨Tryz.f232.name,by decide,Tryz.func232.trans (congrArg some wq)⟩
 f57:=⟨Tryz.f286.name,by decide,Tryz.func286.trans (congrArg some wq)⟩
 t0:=Tryz.underlying0
 a0:=Tryz.isAgg0
 z0:=Tryz.sizeOf0
 v0:=Tryz.zeroValue0
 t3:=Tryz.underlying3
 a3:=Tryz.isAgg3
 z3:=Tryz.sizeOf3
 v3:=Tryz.zeroValue3
 t4:=Tryz.underlying4
 a4:=Tryz.isAgg4
 z4:=Tryz.sizeOf4
 v4:=Tryz.zeroValue4
 t5:=Tryz.underlying5
 a5:=Tryz.isAgg5
 z5:=Tryz.sizeOf5
 v5:=Tryz.zeroValue5
 t9:=Tryz.underlying9
 a9:=Tryz.isAgg9
 z9:=Tryz.sizeOf9
 v9:=Tryz.zeroValue9
 t22:=Tryz.underlying69
 a22:=Tryz.isAgg69
 z22:=Tryz.sizeOf69
 v22:=Tryz.zeroValue69
 t25:=Tryz.underlying157
 a25:=Tryz.isAgg157
 z25:=Tryz.sizeOf157
 v25:=Tryz.zeroValue157
 t39:=Tryz.underlying172
 a39:=Tryz.isAgg172
 z39:=Tryz.sizeOf172
 v39:=Tryz.zeroValue172
 t45:=Tryz.underlying217
 a45:=Tryz.isAgg217
 z45:=Tryz.sizeOf217
 v45:=Tryz.zeroValue217
 t46:=Tryz.underlying218
 a46:=Tryz.isAgg218
 z46:=Tryz.sizeOf218
 v46:=Tryz.zeroValue218
 t50:=Tryz.underlying222
 a50:=Tryz.isAgg222
 z50:=Tryz.sizeOf222
 v50:=Tryz.zeroValue222
 t53:=Tryz.underlying225
 a53:=Tryz.isAgg225
 z53:=Tryz.sizeOf225
 v53:=Tryz.zeroValue225
 t55:=Tryz.underlying107
 a55:=Tryz.isAgg107
 z55:=Tryz.sizeOf107
 v55:=Tryz.zeroValue107
 t66:=Tryz.underlying294
 a66:=Tryz.isAgg294
 z66:=Tryz.sizeOf294
 v66:=Tryz.zeroValue294
 t70:=Tryz.underlying298
 a70:=Tryz.isAgg298
 z70:=Tryz.sizeOf298
 v70:=Tryz.zeroValue298
 t76:=Tryz.underlying342
 a76:=Tryz.isAgg342
 z76:=Tryz.sizeOf342
 v76:=Tryz.zeroValue342
 t77:=Tryz.underlying193
 a77:=Tryz.isAgg193
 z77:=Tryz.sizeOf193
 v77:=Tryz.zeroValue193 }
def Tryz.EG:Go.Shelf.Ren:=⟨fun|6=>101|15=>81|14=>151|28=>136|29=>137|20=>213|21=>214|22=>215|23=>216|24=>217|25=>218|26=>219|27=>220|46=>279|47=>188|48=>189|49=>280|50=>281|57=>347|n=>n,fun|22=>143|24=>146|25=>191|3=>3|39=>172|0=>0|53=>225|55=>107|4=>4|46=>218|45=>217|50=>222|5=>5|9=>9|66=>294|70=>298|76=>342|77=>193|n=>n,fun|n=>n⟩
theorem Tryz.UL:Go.Proofs.SlLaysF0.n6 Tryz.prog Tryz.EG:={
 mixed:=by kernel_rfl
 f6:=⟨Tryz.f101.name,by decide,Tryz.func101.trans (congrArg some wq)⟩
 f14:=⟨Tryz.f151.name,by decide,Tryz.func151.trans (congrArg some wq)⟩
 f15:=Tryz.func81.trans (congrArg some wq)
 f20:=⟨Tryz.f213.name,by decide,Tryz.func213.trans (congrArg some wq)⟩
 f21:=⟨Tryz.f214.name,by decide,Tryz.func214.trans (congrArg some wq)⟩
 f22:=⟨Tryz.f215.name,by decide,Tryz.func215.trans (congrArg some wq)⟩
 f23:=⟨Tryz.f216.name,by decide,Tryz.func216.trans (congrArg some wq)⟩
 f24:=⟨Tryz.f217.name,by decide,Tryz.func217.trans (congrArg some wq)⟩
 f25:=⟨Tryz.f218.name,by decide,Tryz.func218.trans (congrArg some wq)⟩
 f26:=⟨Tryz.f219.name,by decide,Tryz.func219.trans (congrArg some wq)⟩
 f27:=⟨Tryz.f220.name,by decide,Tryz.func220.trans (congrArg some wq)⟩
 f28:=Tryz.func136.trans (congrArg some wq)
 f29:=Tryz.func137.trans (congrArg some wq)
 f46:=⟨Tryz.f279.name,by decide,Tryz.func279.trans (congrArg some wq)⟩
 f47:=Tryz.func188.trans (congrArg some wq)
 f48:=Tryz.func189.trans (congrArg some wq)
 f49:=⟨Tryz.f280.name,by decide,Tryz.func280.trans (congrArg some wq)⟩
 f50:=⟨Tryz.f281.name,by decide,Tryz.func281.trans (congrArg some wq)⟩
 f57:=⟨Tryz.f347.name,by decide,Tryz.func347.trans (congrArg some wq)⟩
 t0:=Tryz.underlying0
 a0:=Tryz.isAgg0
 z0:=Tryz.sizeOf0
 v0:=Tryz.zeroValue0
 t3:=Tryz.underlying3
 a3:=Tryz.isAgg3
 z3:=Tryz.sizeOf3
 v3:=Tryz.zeroValue3
 t4:=Tryz.underlying4
 a4:=Tryz.isAgg4
 z4:=Tryz.sizeOf4
 v4:=Tryz.zeroValue4
 t5:=Tryz.underlying5
 a5:=Tryz.isAgg5
 z5:=Tryz.sizeOf5
 v5:=Tryz.zeroValue5
 t9:=Tryz.underlying9
 a9:=Tryz.isAgg9
 z9:=Tryz.sizeOf9
 v9:=Tryz.zeroValue9
 t22:=Tryz.underlying143
 a22:=Tryz.isAgg143
 z22:=Tryz.sizeOf143
 v22:=Tryz.zeroValue143
 t25:=Tryz.underlying191
 a25:=Tryz.isAgg191
 z25:=Tryz.sizeOf191
 v25:=Tryz.zeroValue191
 t39:=Tryz.underlying172
 a39:=Tryz.isAgg172
 z39:=Tryz.sizeOf172
 v39:=Tryz.zeroValue172
 t45:=Tryz.underlying217
 a45:=Tryz.isAgg217
 z45:=Tryz.sizeOf217
 v45:=Tryz.zeroValue217
 t46:=Tryz.underlying218
 a46:=Tryz.isAgg218
 z46:=Tryz.sizeOf218
 v46:=Tryz.zeroValue218
 t50:=Tryz.underlying222
 a50:=Tryz.isAgg222
 z50:=Tryz.sizeOf222
 v50:=Tryz.zeroValue222
 t53:=Tryz.underlying225
 a53:=Tryz.isAgg225
 z53:=Tryz.sizeOf225
 v53:=Tryz.zeroValue225
 t55:=Tryz.underlying107
 a55:=Tryz.isAgg107
 z55:=Tryz.sizeOf107
 v55:=Tryz.zeroValue107
 t66:=Tryz.underlying294
 a66:=Tryz.isAgg294
 z66:=Tryz.sizeOf294
 v66:=Tryz.zeroValue294
 t70:=Tryz.underlying298
 a70:=Tryz.isAgg298
 z70:=Tryz.sizeOf298
 v70:=Tryz.zeroValue298
 t76:=Tryz.underlying342
 a76:=Tryz.isAgg342
 z76:=Tryz.sizeOf342
 v76:=Tryz.zeroValue342
 t77:=Tryz.underlying193
 a77:=Tryz.isAgg193
 z77:=Tryz.sizeOf193
 v77:=Tryz.zeroValue193 }
def Tryz.Bu:Go.Shelf.Ren:=⟨fun|6=>121|15=>81|14=>183|28=>136|29=>137|20=>238|21=>239|22=>240|23=>241|24=>242|25=>243|26=>244|27=>245|46=>292|47=>188|48=>189|49=>293|50=>294|57=>358|n=>n,fun|22=>34|24=>113|25=>164|3=>3|39=>172|0=>0|53=>225|55=>107|4=>4|46=>218|45=>217|50=>222|5=>5|9=>9|66=>294|70=>298|76=>342|77=>193|n=>n,fun|n=>n⟩
theorem Tryz.PD:Go.Proofs.SlLaysF0.n6 Tryz.prog Tryz.Bu:={
 mixed:=by kernel_rfl
 f6:=⟨Tryz.f121.name,by decide,Tryz.func121.trans (congrArg some wq)⟩
 f14:=⟨Tryz.f183.name,by decide,Tryz.func183.trans (congrArg some wq)⟩
 f15:=Tryz.func81.trans (congrArg some wq)
 f20:=⟨Tryz.f238.name,by decide,Tryz.func238.trans (congrArg some wq)⟩
 f21:=⟨Tryz.f239.name,by decide,Tryz.func239.trans (congrArg some wq)⟩
 f22:=⟨Tryz.f240.name,by decide,Tryz.func240.trans (congrArg some wq)⟩
 f23:=⟨Tryz.f241.name,by decide,Tryz.func241.trans (congrArg some wq)⟩
 f24:=⟨Tryz.f242.name,by decide,Tryz.func242.trans (congrArg some wq)⟩
 f25:=⟨Tryz.f243.name,by decide,Tryz.func243.trans (congrArg some wq)⟩
 f26:=⟨Tryz.f244.name,by decide,Tryz.func244.trans (congrArg some wq)⟩
 f27:=⟨Tryz.f245.name,by decide,Tryz.func245.trans (congrArg some wq)⟩
 f28:=Tryz.func136.trans (congrArg some wq)
 f29:=Tryz.func137.trans (congrArg some wq)
 f46:=⟨Tryz.f292.name,by decide,Tryz.func292.trans (congrArg some wq)⟩
 f47:=Tryz.func188.trans (congrArg some wq)
 f48:=Tryz.func189.trans (congrArg some wq)
 f49:=⟨Tryz.f293.name,by decide,Tryz.func293.trans (congrArg some wq)⟩
 f50:=⟨Tryz.f294.name,by decide,Tryz.func294.trans (congrArg some wq)⟩
 f57:=⟨Tryz.f358.name,by decide,Tryz.func358.trans (congrArg some wq)⟩
 t0:=Tryz.underlying0
 a0:=Tryz.isAgg0
 z0:=Tryz.sizeOf0
 v0:=Tryz.zeroValue0
 t3:=Tryz.underlying3
 a3:=Tryz.isAgg3
 z3:=Tryz.sizeOf3
 v3:=Tryz.zeroValue3
 t4:=Tryz.underlying4
 a4:=Tryz.isAgg4
 z4:=Tryz.sizeOf4
 v4:=Tryz.zeroValue4
 t5:=Tryz.underlying5
 a5:=Tryz.isAgg5
 z5:=Tryz.sizeOf5
 v5:=Tryz.zeroValue5
 t9:=Tryz.underlying9
 a9:=Tryz.isAgg9
 z9:=Tryz.sizeOf9
 v9:=Tryz.zeroValue9
 t22:=Tryz.underlying34
 a22:=Tryz.isAgg34
 z22:=Tryz.sizeOf34
 v22:=Tryz.zeroValue34
 t25:=Tryz.underlying164
 a25:=Tryz.isAgg164
 z25:=Tryz.sizeOf164
 v25:=Tryz.zeroValue164
 t39:=Tryz.underlying172
 a39:=Tryz.isAgg172
 z39:=Tryz.sizeOf172
 v39:=Tryz.zeroValue172
 t45:=Tryz.underlying217
 a45:=Tryz.isAgg217
 z45:=Tryz.sizeOf217
 v45:=Tryz.zeroValue217
 t46:=Tryz.underlying218
 a46:=Tryz.isAgg218
 z46:=Tryz.sizeOf218
 v46:=Tryz.zeroValue218
 t50:=Tryz.underlying222
 a50:=Tryz.isAgg222
 z50:=Tryz.sizeOf222
 v50:=Tryz.zeroValue222
 t53:=Tryz.underlying225
 a53:=Tryz.isAgg225
 z53:=Tryz.sizeOf225
 v53:=Tryz.zeroValue225
 t55:=Tryz.underlying107
 a55:=Tryz.isAgg107
 z55:=Tryz.sizeOf107
 v55:=Tryz.zeroValue107
 t66:=Tryz.underlying294
 a66:=Tryz.isAgg294
 z66:=Tryz.sizeOf294
 v66:=Tryz.zeroValue294
 t70:=Tryz.underlying298
 a70:=Tryz.isAgg298
 z70:=Tryz.sizeOf298
 v70:=Tryz.zeroValue298
 t76:=Tryz.underlying342
 a76:=Tryz.isAgg342
 z76:=Tryz.sizeOf342
 v76:=Tryz.zeroValue342
 t77:=Tryz.underlying193
 a77:=Tryz.isAgg193
 z77:=Tryz.sizeOf193
 v77:=Tryz.zeroValue193 }
def Tryz.Ha:Go.Shelf.Ren:=⟨fun|6=>227|15=>81|14=>285|28=>136|29=>137|20=>348|21=>349|22=>350|23=>351|24=>352|25=>353|26=>354|27=>355|46=>420|47=>188|48=>189|49=>421|50=>422|57=>473|n=>n,fun|22=>27|24=>32|25=>200|3=>3|39=>172|0=>0|53=>225|55=>107|4=>4|46=>218|45=>217|50=>222|5=>5|9=>9|66=>294|70=>298|76=>342|77=>193|n=>n,fun|n=>n⟩
theorem Tryz.YR:Go.Proofs.SlLaysF0.n6 Tryz.prog Tryz.Ha:={
 mixed:=by kernel_rfl
 f6:=⟨Tryz.f227.name,by decide,Tryz.func227.trans (congrArg some wq)⟩
 f14:=⟨Tryz.f285.name,by decide,Tryz.func285.trans (congrArg some wq)⟩
 f15:=Tryz.func81.trans (congrArg some wq)
 f20:=⟨Tryz.f348.name,by decide,Tryz.func348.trans (congrArg some wq)⟩
 f21:=⟨Tryz.f349.name,by decide,Tryz.func349.trans (congrArg some wq)⟩
 f22:=⟨Tryz.f350.name,by decide,Tryz.func350.trans (congrArg some wq)⟩
 f23:=⟨Tryz.f351.name,by decide,Tryz.func351.trans (congrArg some wq)⟩
 f24:=⟨Tryz.f352.name,by decide,Tryz.func352.trans (congrArg some wq)⟩
 f25:=⟨Tryz.f353.name,by decide,Tryz.func353.trans (congrArg some wq)⟩
 f26:=⟨Tryz.f354.name,by decide,Tryz.func354.trans (congrArg some wq)⟩
 f27:=⟨Tryz.f355.name,by decide,Tryz.func355.trans (congrArg some wq)⟩
 f28:=Tryz.func136.trans (congrArg some wq)
 f29:=Tryz.func137.trans (congrArg some wq)
 f46:=⟨Tryz.f420.name,by decide,Tryz.func420.trans (congrArg some wq)⟩
 f47:=Tryz.func188.trans (congrArg some wq)
 f48:=Tryz.func189.trans (congrArg some wq)
 f49:=⟨Tryz.f421.name,by decide,Tryz.func421.trans (congrArg some wq)⟩
 f50:=⟨Tryz.f422.name,by decide,Tryz.func422.trans (congrArg some wq)⟩
 f57:=⟨Tryz.f473.name,by decide,Tryz.func473.trans (congrArg some wq)⟩
 t0:=Tryz.underlying0
 a0:=Tryz.isAgg0
 z0:=Tryz.sizeOf0
 v0:=Tryz.zeroValue0
 t3:=Tryz.underlying3
 a3:=Tryz.isAgg3
 z3:=Tryz.sizeOf3
 v3:=Tryz.zeroValue3
 t4:=Tryz.underlying4
 a4:=Tryz.isAgg4
 z4:=Tryz.sizeOf4
 v4:=Tryz.zeroValue4
 t5:=Tryz.underlying5
 a5:=Tryz.isAgg5
 z5:=Tryz.sizeOf5
 v5:=Tryz.zeroValue5
 t9:=Tryz.underlying9
 a9:=Tryz.isAgg9
 z9:=Tryz.sizeOf9
 v9:=Tryz.zeroValue9
 t22:=Tryz.underlying27
 a22:=Tryz.isAgg27
 z22:=Tryz.sizeOf27
 v22:=Tryz.zeroValue27
 t25:=Tryz.underlying200
 a25:=Tryz.isAgg200
 z25:=Tryz.sizeOf200
 v25:=Tryz.zeroValue200
 t39:=Tryz.underlying172
 a39:=Tryz.isAgg172
 z39:=Tryz.sizeOf172
 v39:=Tryz.zeroValue172
 t45:=Tryz.underlying217
 a45:=Tryz.isAgg217
 z45:=Tryz.sizeOf217
 v45:=Tryz.zeroValue217
 t46:=Tryz.underlying218
 a46:=Tryz.isAgg218
 z46:=Tryz.sizeOf218
 v46:=Tryz.zeroValue218
 t50:=Tryz.underlying222
 a50:=Tryz.isAgg222
 z50:=Tryz.sizeOf222
 v50:=Tryz.zeroValue222
 t53:=Tryz.underlying225
 a53:=Tryz.isAgg225
 z53:=Tryz.sizeOf225
 v53:=Tryz.zeroValue225
 t55:=Tryz.underlying107
 a55:=Tryz.isAgg107
 z55:=Tryz.sizeOf107
 v55:=Tryz.zeroValue107
 t66:=Tryz.underlying294
 a66:=Tryz.isAgg294
 z66:=Tryz.sizeOf294
 v66:=Tryz.zeroValue294
 t70:=Tryz.underlying298
 a70:=Tryz.isAgg298
 z70:=Tryz.sizeOf298
 v70:=Tryz.zeroValue298
 t76:=Tryz.underlying342
 a76:=Tryz.isAgg342
 z76:=Tryz.sizeOf342
 v76:=Tryz.zeroValue342
 t77:=Tryz.underlying193
 a77:=Tryz.isAgg193
 z77:=Tryz.sizeOf193
 v77:=Tryz.zeroValue193 }
end Go.Proofs
namespace Go.Proofs.YtlmabdegojeheaaGreatDoor
open R
open Go.RowKit
attribute [local irreducible] aq in
instance aaE (a b:Sg):bj Tryz.prog 513 #[.agg (cS a).toArray,.agg (cS b).toArray] Unit (fun _ _=>True) (fun _=>.agg (cS (b7 (a.z*b.z))).toArray):=⟨fun _ w _=>by
 have hM:=R.Own.start [] w
 refine aa (fn:=Tryz.f513) Tryz.func513 rfl Tryz.ntmps513 (Nat.le_of_ble_eq_true rfl) ?_
 (refine ad ?_;(repeat' first|refine And.intro ?_ ?_|intro _);all_goals refine ah.mk ?_;(all_goals (try (exact ⟨rfl,R.Own.below ww⟩))))⟩
attribute [local irreducible] aq in
instance aaF (a b:Sg):bj Tryz.prog 557 #[.agg (cS a).toArray,.agg (cS b).toArray] Unit (fun _ _=>True) (fun _=>.agg (cS (b7 (a.z+b.z))).toArray):=⟨fun _ w _=>by
 have hM:=R.Own.start [] w
 refine aa (fn:=Tryz.f557) Tryz.func557 rfl Tryz.ntmps557 (Nat.le_of_ble_eq_true rfl) ?_
 (refine ad ?_;(repeat' first|refine And.intro ?_ ?_|intro _);all_goals refine ah.mk ?_;(all_goals (try (exact ⟨rfl,R.Own.below ww⟩))))⟩
attribute [local irreducible] aq in
instance aaG (a b:Sg):bj Tryz.prog 556 #[.agg (cS a).toArray,.agg (cS b).toArray] Unit (fun _ _=>True) (fun _=>.agg (cS (b7 (a.z-b.z))).toArray):=⟨fun _ w _=>by
 have hM:=R.Own.start [] w
 refine aa (fn:=Tryz.f556) Tryz.func556 rfl Tryz.ntmps556 (Nat.le_of_ble_eq_true rfl) ?_
 (refine ad ?_;(repeat' first|refine And.intro ?_ ?_|intro _);all_goals refine ah.mk ?_;(all_goals (try (exact ⟨rfl,R.Own.below ww⟩))))⟩
def VJ (a:Sp):Sg:=⟨false,a.w⟩
attribute [local irreducible] aq in
instance acw (a:Sp):bj Tryz.prog 544 #[.agg (bF a).toArray] Unit (fun _ _=>True) (fun _=>.agg (cS (VJ a)).toArray):=⟨fun _ w _=>by
 have hM:=R.Own.start [] w
 refine aa (fn:=Tryz.f544) Tryz.func544 rfl Tryz.ntmps544 (Nat.le_of_ble_eq_true rfl) ?_
 (refine ad ?_;(repeat' first|refine And.intro ?_ ?_|intro _);all_goals refine ah.mk ?_;(all_goals (try (exact ⟨rfl,R.Own.below ww⟩))))⟩
def toW (a:Sp) (p:Pt):Wy:=⟨b7 ((b7 ((a8 p.x).z*(VJ a).z)).z-a.x.z),b7 ((b7 ((a8 p.y).z*(VJ a).z)).z-a.y.z)⟩
def X1 (a b:Sp):Wy:=⟨b7 ((b7 (b.x.z*(VJ a).z)).z-(b7 (a.x.z*(VJ b).z)).z),b7 ((b7 (b.y.z*(VJ a).z)).z-(b7 (a.y.z*(VJ b).z)).z)⟩
def X3 (u v:Wy):Sg:=b7 ((b7 (u.x.z*v.x.z)).z+(b7 (u.y.z*v.y.z)).z)
def Ge (u v:Wy):Sg:=b7 ((b7 (u.x.z*v.y.z)).z-(b7 (u.y.z*v.x.z)).z)
attribute [local irreducible] aq in
set_option maxHeartbeats 4000000 in
instance Th (a:Sp) (p:Pt):bj Tryz.prog 543 #[.agg (bF a).toArray,.agg (cr p).toArray] Unit (fun _ _=>ao p.x∧ao p.y) (fun _=>.agg (EX (toW a p)).toArray):=⟨fun _ w ⟨h1,h2⟩=>by
 have hM:=R.Own.start [] w
 refine aa (fn:=Tryz.f543) Tryz.func543 rfl Tryz.ntmps543 (Nat.le_of_ble_eq_true rfl) ?_
 (refine ad ?_;(repeat' first|refine And.intro ?_ ?_|intro _);all_goals refine ah.mk ?_)
 refine bB [(0,false),(1,false),(3,false),(6,false),(7,false),(9,false),(10,false),(12,false),(15,false),(16,false),(2,true),(4,true),(5,true),(8,true),(11,true),(13,true),(14,true),(17,true),(18,false),(19,true)] R.mixed wx aj ?_
 (refine ad ?_;(repeat' first|refine And.intro ?_ ?_|intro _);all_goals refine ah.mk ?_;(all_goals (try (exact ⟨rfl,R.Own.below ww⟩))))⟩
attribute [local irreducible] aq in
set_option maxHeartbeats 4000000 in
instance NF (a b:Sp):bj Tryz.prog 541 #[.agg (bF a).toArray,.agg (bF b).toArray] Unit (fun _ _=>True) (fun _=>.agg (EX (X1 a b)).toArray):=⟨fun _ w _=>by
 have hM:=R.Own.start [] w
 refine aa (fn:=Tryz.f541) Tryz.func541 rfl Tryz.ntmps541 (Nat.le_of_ble_eq_true rfl) ?_
 (refine ad ?_;(repeat' first|refine And.intro ?_ ?_|intro _);all_goals refine ah.mk ?_)
 refine bB [(0,false),(1,false),(2,false),(5,false),(6,false),(7,false),(11,false),(12,false),(13,false),(16,false),(17,false),(18,false),(3,true),(4,true),(8,true),(9,true),(10,true),(14,true),(15,true),(19,true),(20,true),(21,true),(22,false),(23,true)] R.mixed wx aj ?_
 (refine ad ?_;(repeat' first|refine And.intro ?_ ?_|intro _);all_goals refine ah.mk ?_;(all_goals (try (exact ⟨rfl,R.Own.below ww⟩))))⟩
attribute [local irreducible] aq in
set_option maxHeartbeats 4000000 in
instance NG (u v:Wy):bj Tryz.prog 542 #[.agg (EX u).toArray,.agg (EX v).toArray] Unit (fun _ _=>True) (fun _=>.agg (cS (X3 u v)).toArray):=⟨fun _ w _=>by
 have hM:=R.Own.start [] w
 refine aa (fn:=Tryz.f542) Tryz.func542 rfl Tryz.ntmps542 (Nat.le_of_ble_eq_true rfl) ?_
 (refine ad ?_;(repeat' first|refine And.intro ?_ ?_|intro _);all_goals refine ah.mk ?_)
 refine bB [(0,false),(1,false),(2,false),(3,false),(5,false),(6,false),(7,false),(8,false),(4,true),(9,true),(10,true),(11,true)] R.mixed wx aj ?_
 (refine ad ?_;(repeat' first|refine And.intro ?_ ?_|intro _);all_goals refine ah.mk ?_;(all_goals (try (exact ⟨rfl,R.Own.below ww⟩))))⟩
attribute [local irreducible] aq in
set_option maxHeartbeats 4000000 in
instance Gf (u v:Wy):bj Tryz.prog 555 #[.agg (EX u).toArray,.agg (EX v).toArray] Unit (fun _ _=>True) (fun _=>.agg (cS (Ge u v)).toArray):=⟨fun _ w _=>by
 have hM:=R.Own.start [] w
 refine aa (fn:=Tryz.f555) Tryz.func555 rfl Tryz.ntmps555 (Nat.le_of_ble_eq_true rfl) ?_
 (refine ad ?_;(repeat' first|refine And.intro ?_ ?_|intro _);all_goals refine ah.mk ?_)
 refine bB [(0,false),(1,false),(2,false),(3,false),(5,false),(6,false),(7,false),(8,false),(4,true),(9,true),(10,true),(11,true)] R.mixed wx aj ?_
 (refine ad ?_;(repeat' first|refine And.intro ?_ ?_|intro _);all_goals refine ah.mk ?_;(all_goals (try (exact ⟨rfl,R.Own.below ww⟩))))⟩
def NH (a:Sp):Bool:=decide (((bitLen a.x.br.n:Nat):Int)≤92)&&(decide (((bitLen a.y.br.n:Nat):Int)≤92)&&(decide (((bitLen a.w.n:Nat):Int)≤62)&&bo a))
def oT (p:Pt):Bool:=decide (-536870912≤p.x)&&(decide (p.x≤536870912)&&(decide (-536870912≤p.y)&&decide (p.y≤536870912)))
attribute [local irreducible] aq bo in
set_option maxHeartbeats 4000000 in
instance KI (a:Sp):bj Tryz.prog 537 #[.agg (bF a).toArray] Unit (fun _ _=>True) (fun _=>.bool (NH a)):=⟨fun _ w _=>by
 have hM:=R.Own.start [] w
 refine aa (fn:=Tryz.f537) Tryz.func537 rfl Tryz.ntmps537 (Nat.le_of_ble_eq_true rfl) ?_
 (refine ad ?_;(repeat' first|refine And.intro ?_ ?_|intro _);all_goals refine ah.mk ?_)
 all_goals
  refine ⟨?_,R.Own.below ww⟩
  simp [NH, *]⟩
attribute [local irreducible] aq in
set_option maxHeartbeats 4000000 in
instance X4 (n:Int):bj Tryz.prog 148 #[.int .i64 n] Unit (fun _ _=>True) (fun _=>.bool (decide (-536870912≤n)&&decide (n≤536870912))):=⟨fun _ w _=>by
 have hM:=R.Own.start [] w
 refine aa (fn:=Tryz.f148) Tryz.func148 rfl Tryz.ntmps148 (Nat.le_of_ble_eq_true rfl) ?_
 (refine ad ?_;(repeat' first|refine And.intro ?_ ?_|intro _);all_goals refine ah.mk ?_)
 all_goals
  refine ⟨?_,R.Own.below ww⟩
  simp [*]⟩
attribute [local irreducible] aq in
set_option maxHeartbeats 4000000 in
instance x6 (p:Pt):bj Tryz.prog 93 #[.agg (cr p).toArray] Unit (fun _ _=>True) (fun _=>.bool (oT p)):=⟨fun _ w _=>by
 have hM:=R.Own.start [] w
 refine aa (fn:=Tryz.f93) Tryz.func93 rfl Tryz.ntmps93 (Nat.le_of_ble_eq_true rfl) ?_
 (refine ad ?_;(repeat' first|refine And.intro ?_ ?_|intro _);all_goals refine ah.mk ?_)
 all_goals
  refine ⟨?_,R.Own.below ww⟩
  first
   | (simp_all [oT];done)
   | (simp_all [oT];intros;omega)⟩
def IP (s:Sg) (b:Wd):Int:=GW (Cd s ⟨false,b⟩).z
def Fj (s:Sg) (b:Wd):Prop:=b.n≠0∧-1073741824≤(Cd s ⟨false,b⟩).z∧(Cd s ⟨false,b⟩).z≤1073741824
instance acx (s:Sg) (b:Wd):Decidable (Fj s b):=by unfold Fj;infer_instance
def X5 (s:Sg) (b:Wd):Int:=IntKind.i64.wrap (-(IP (a8 (-s.z)) b))
def VK (s:Sg) (b:Wd):Prop:=Fj (a8 (-s.z)) b
instance acy (s:Sg) (b:Wd):Decidable (VK s b):=by unfold VK;infer_instance
attribute [local irreducible] Cd in
theorem NI (s:Sg) (b:Wd) (w:World):Calls Tryz.prog 428 #[.agg (cS s).toArray,.agg (cW b).toArray] w fun e w'=>e=.returned (.tuple #[.int .i64 (IP s b),.bool (decide (Fj s b))])∧Below w.heap.size w w':=by
 have hM:=R.Own.start [] w
 obtain ⟨Q,hQ⟩:∃ Q,Cd s ⟨false,b⟩=Q:=⟨_,rfl⟩
 have hi:=ym s ⟨false,b⟩
 have e1:IP s b=GW Q.z:=by unfold IP;rw [hQ]
 have e2:Fj s b↔b.n≠0∧-1073741824≤Q.z∧Q.z≤1073741824:=by unfold Fj;rw [hQ]
 rw [hQ] at hi
 rw [e1,show decide (Fj s b)=decide (b.n≠0∧-1073741824≤Q.z∧Q.z≤1073741824) from decide_eq_decide.2 e2]
 clear e1 e2
 by_cases h0:b.n=0
 ·have i1:bj Tryz.prog 478 #[.agg (cS s).toArray,.agg (cS ⟨false,b⟩).toArray] Unit (fun _ _=>True) (fun _=>.tuple #[.agg (cS Q).toArray,.int .i64 1]):=⟨fun s w h=>by
   have q:=hi.h s w h
   rw [show eW (⟨false,b⟩:Sg).br=1 by unfold eW;rw [if_pos h0]] at q
   exact q⟩
  rw [decide_eq_false (fun h=>h.1 h0)]
  clear hi
  refine aa (fn:=Tryz.f428) Tryz.func428 rfl Tryz.ntmps428 (Nat.le_of_ble_eq_true rfl) ?_
  (refine ad ?_;(repeat' first|refine And.intro ?_ ?_|intro _);all_goals refine ah.mk ?_)
  exact ⟨rfl,R.Own.below aj⟩
 ·have i1:bj Tryz.prog 478 #[.agg (cS s).toArray,.agg (cS ⟨false,b⟩).toArray] Unit (fun _ _=>True) (fun _=>.tuple #[.agg (cS Q).toArray,.int .i64 0]):=⟨fun s w h=>by
   have q:=hi.h s w h
   rw [show eW (⟨false,b⟩:Sg).br=0 by unfold eW;rw [if_neg h0]] at q
   exact q⟩
  clear hi
  by_cases hq:-9223372036854775808≤Q.z∧Q.z≤9223372036854775807
  ·have i2:bj Tryz.prog 479 #[.agg (cS Q).toArray] Unit (fun _ _=>True) (fun _=>.tuple #[.int .i64 Q.z,.bool true]):=⟨fun s w h=>by
    have q:=(pB Q).h s w h
    rw [show GW Q.z=Q.z by unfold GW;rw [if_pos hq],decide_eq_true hq] at q
    exact q⟩
   rw [show GW Q.z=Q.z by unfold GW;rw [if_pos hq]]
   refine aa (fn:=Tryz.f428) Tryz.func428 rfl Tryz.ntmps428 (Nat.le_of_ble_eq_true rfl) ?_
   (refine ad ?_;(repeat' first|refine And.intro ?_ ?_|intro _);all_goals refine ah.mk ?_)
   ·refine ⟨?_,R.Own.below aj⟩
    rw [show decide (b.n≠0∧-1073741824≤Q.z∧Q.z≤1073741824)=decide (Q.z≤1073741824) from decide_eq_decide.2 ⟨fun h=>h.2.2,fun h=>⟨h0,by assumption,h⟩⟩]
   ·refine ⟨?_,R.Own.below aj⟩
    rw [decide_eq_false (fun h:b.n≠0∧-1073741824≤Q.z∧Q.z≤1073741824=>absurd h.2.1 ww)]
  ·have i2:bj Tryz.prog 479 #[.agg (cS Q).toArray] Unit (fun _ _=>True) (fun _=>.tuple #[.int .i64 0,.bool false]):=⟨fun s w h=>by
    have q:=(pB Q).h s w h
    rw [show GW Q.z=0 by unfold GW;rw [if_neg hq],decide_eq_false hq] at q
    exact q⟩
   rw [show GW Q.z=0 by unfold GW;rw [if_neg hq],decide_eq_false (fun h=>hq ⟨by omega,by omega⟩)]
   refine aa (fn:=Tryz.f428) Tryz.func428 rfl Tryz.ntmps428 (Nat.le_of_ble_eq_true rfl) ?_
   (refine ad ?_;(repeat' first|refine And.intro ?_ ?_|intro _);all_goals refine ah.mk ?_)
   exact ⟨rfl,R.Own.below aj⟩
instance aaH (s:Sg) (b:Wd):bj Tryz.prog 428 #[.agg (cS s).toArray,.agg (cW b).toArray] Unit (fun _ _=>True) (fun _=>.tuple #[.int .i64 (IP s b),.bool (decide (Fj s b))]):=⟨fun _ w _=>NI s b w⟩
theorem X6 (s:Sg) (b:Wd) (w:World):Calls Tryz.prog 429 #[.agg (cS s).toArray,.agg (cW b).toArray] w fun e w'=>e=.returned (.tuple #[.int .i64 (X5 s b),.bool (decide (VK s b))])∧Below w.heap.size w w':=by
 have hM:=R.Own.start [] w
 unfold X5 VK
 refine aa (fn:=Tryz.f429) Tryz.func429 rfl Tryz.ntmps429 (Nat.le_of_ble_eq_true rfl) ?_
 (refine ad ?_;(repeat' first|refine And.intro ?_ ?_|intro _);all_goals refine ah.mk ?_)
 refine bB [(0,false),(2,false),(1,true),(3,true),(4,false),(5,false),(6,false),(7,false),(8,false)] R.mixed wx aj ?_
 (refine ad ?_;(repeat' first|refine And.intro ?_ ?_|intro _);all_goals refine ah.mk ?_)
 refine FX rfl rfl ?_
 (refine ad ?_;(repeat' first|refine And.intro ?_ ?_|intro _);all_goals refine ah.mk ?_;(all_goals (try (exact ⟨rfl,R.Own.below ww⟩))))
instance adU (s:Sg) (b:Wd):bj Tryz.prog 429 #[.agg (cS s).toArray,.agg (cW b).toArray] Unit (fun _ _=>True) (fun _=>.tuple #[.int .i64 (X5 s b),.bool (decide (VK s b))]):=⟨fun _ w _=>X6 s b w⟩
def X7 (x:Sp):Pt:=⟨IP x.x x.w,IP x.y x.w⟩
def NJ (x:Sp):Pt:=⟨X5 x.x x.w,X5 x.y x.w⟩
def qw (x:Sp):Prop:=Fj x.x x.w∧Fj x.y x.w∧VK x.x x.w∧VK x.y x.w
instance ZB (x:Sp):Decidable (qw x):=by unfold qw;infer_instance
set_option maxHeartbeats 1000000 in
theorem Dd (x:Sp) (w:World):Calls Tryz.prog 364 #[.agg (bF x).toArray] w fun e w'=>e=.returned (.tuple #[.agg (cr (X7 x)).toArray,.agg (cr (NJ x)).toArray,.bool (decide (qw x))])∧Below w.heap.size w w':=by
 have hM:=R.Own.start [] w
 refine aa (fn:=Tryz.f364) Tryz.func364 rfl Tryz.ntmps364 (Nat.le_of_ble_eq_true rfl) ?_
 (refine ad ?_;(repeat' first|refine And.intro ?_ ?_|intro _);all_goals refine ah.mk ?_)
 all_goals
  refine ⟨?_,R.Own.below aj⟩
  first
  | (rw [show decide (qw x)=decide (VK x.y x.w) from decide_eq_decide.2 ⟨fun h=>h.2.2.2,fun h=>⟨by assumption,by assumption,by assumption,h⟩⟩];rfl)
  | (rw [decide_eq_false (fun h:qw x=>absurd h.1 ww)];rfl)
  | (rw [decide_eq_false (fun h:qw x=>absurd h.2.1 ww)];rfl)
  | (rw [decide_eq_false (fun h:qw x=>absurd h.2.2.1 ww)];rfl)
instance De (x:Sp):bj Tryz.prog 364 #[.agg (bF x).toArray] Unit (fun _ _=>True) (fun _=>.tuple #[.agg (cr (X7 x)).toArray,.agg (cr (NJ x)).toArray,.bool (decide (qw x))]):=⟨fun _ w _=>Dd x w⟩
open Go.RowKit
theorem ow (p:Pt):oT p=true↔bL p:=by
 unfold oT bL
 simp only [Bool.and_eq_true,decide_eq_true_eq]
attribute [local irreducible] aq oT in
set_option maxHeartbeats 4000000 in
instance N5 (a b c:Pt):bj Tryz.prog 166 #[.agg (cr a).toArray,.agg (cr b).toArray,.agg (cr c).toArray] Unit (fun _ _=>True) (fun _=>.bool (oT a&&(oT b&&oT c))):=⟨fun _ w _=>by
 have hM:=R.Own.start [] w
 refine aa (fn:=Tryz.f166) Tryz.func166 rfl Tryz.ntmps166 (Nat.le_of_ble_eq_true rfl) ?_
 (refine ad ?_;(repeat' first|refine And.intro ?_ ?_|intro _);all_goals refine ah.mk ?_)
 all_goals
  refine ⟨?_,R.Own.below ww⟩
  simp [*]⟩
def yf (a b:Pt):Pt:=⟨b.x-a.x,b.y-a.y⟩
attribute [local irreducible] aq in
set_option maxHeartbeats 4000000 in
instance ZC (a b:Pt):bj Tryz.prog 167 #[.agg (cr a).toArray,.agg (cr b).toArray] Unit (fun _ _=>bL a∧bL b) (fun _=>.agg (cr (yf a b)).toArray):=⟨fun _ w ⟨⟨h1,h2,h3,h4⟩,h5,h6,h7,h8⟩=>by
 have hM:=R.Own.start [] w
 refine aa (fn:=Tryz.f167) Tryz.func167 rfl Tryz.ntmps167 (Nat.le_of_ble_eq_true rfl) ?_
 (refine ad ?_;(repeat' first|refine And.intro ?_ ?_|intro _);all_goals refine ah.mk ?_;(all_goals (try (exact ⟨rfl,R.Own.below ww⟩))))⟩
attribute [local irreducible] aq oT in
set_option maxHeartbeats 4000000 in
instance KX (s:bJ):bj Tryz.prog 99 #[.agg (bD s).toArray] Unit (fun _ _=>True) (fun _=>.bool (oT s.a&&(oT s.b&&decide (s.a≠s.b)))):=⟨fun _ w _=>by
 have hM:=R.Own.start [] w
 refine aa (fn:=Tryz.f99) Tryz.func99 rfl Tryz.ntmps99 (Nat.le_of_ble_eq_true rfl) ?_
 (refine ad ?_;(repeat' first|refine And.intro ?_ ?_|intro _);all_goals refine ah.mk ?_)
 all_goals
  refine ⟨?_,R.Own.below ww⟩
  first
   | (simp_all;done)
   | (simp_all [bne];done)⟩
end Go.Proofs.YtlmabdegojeheaaGreatDoor
